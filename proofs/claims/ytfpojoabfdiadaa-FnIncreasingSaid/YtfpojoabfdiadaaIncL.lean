/- The walk of the law on increasing subsequences. -/
import Derived.Test.YtfpojoabfdiadaaIncP
import Derived.Test.YtfpojoabfdiadaaFlat
import Derived.Test.YtfpojoabfdiadaaVL
namespace Go.Proofs.Ytfpojoabfdiadaa
open Go.RowKit
set_option linter.unusedVariables false
theorem add_succI (a : Addr) (j : Nat) : a.add (j + 1) = ⟨a.block, a.off + (j + 1), none⟩ := by simp [Addr.add]
theorem liP_at {zs : List Int} {k : Nat} (h : k < (liP zs).length) : ∃ (j : Nat) (x : Int), (liP zs)[k]? = some (j, x) ∧ (liV zs)[k]? = some (j : Int) ∧ j < zs.length ∧ zs[j]? = some x := by
  have h1 := (liP_facts zs).1 _ (List.getElem_mem h)
  refine ⟨(liP zs)[k].1, (liP zs)[k].2, List.getElem?_eq_getElem h, ?_, ?_, h1⟩
  · simp [liV, h]
  · exact (List.getElem?_eq_some_iff.1 h1).1
theorem liP_two {zs : List Int} {k i j : Nat} {x y : Int} (h1 : (liP zs)[k]? = some (i, x)) (h2 : (liP zs)[k + 1]? = some (j, y)) : i < j ∧ x < y := by
  obtain ⟨a1, a2⟩ := List.getElem?_eq_some_iff.1 h1
  obtain ⟨b1, b2⟩ := List.getElem?_eq_some_iff.1 h2
  have := List.pairwise_iff_getElem.1 (liP_facts zs).2 k (k + 1) a1 b1 (by omega)
  rw [a2, b2] at this
  exact this
set_option maxRecDepth 100000 in
set_option maxHeartbeats 1600000 in
theorem rJoin_any (A : Option Addr) (zss : List (List Int)) (c : Nat) (w : World) (hx : ReadsRR w w.heap.size A zss) (hl : zss.length ≤ 1048576) (hs : (zss.map List.length).sum ≤ 1048576) :
    Calls Try.prog 20 #[.slice A zss.length c] w fun e w' => ∃ v, e = .returned v ∧ w'.ownsRow w.heap.size 3 1 v zss.flatten.length (ints zss.flatten) ∧ Below w.heap.size w w' := by
  obtain ⟨i0, hi, hz0, hz1, hz2⟩ := info_parts (show (Try.prog.info? 3).map (fun i => (i.zero, i.size, i.bytes)) = some (some (.int .i64 0), 1, 8) by kernel_rfl)
  have hml : (zss.map List.length).length = zss.length := by simp
  have HFT := Lib.hid (flat_take_len zss)
  have HGE : Hid (∀ k (h : k < zss.length), zss[k].length = (zss.map List.length)[k]?.getD 0) := Lib.hid (by intro k h; simp [h])
  generalize hls : zss.map List.length = ls at *
  clear hls
  have ho1 := World.ownsRow_made (base := w.heap.size) (size := 1) (e := 3) w #[] 0 (Nat.le_refl _) (by simp) (by simp)
  have hb1 := alloc_ (Below.refl w.heap.size w) (.cells #[] 3)
  go_enter Try.func20, Try.ntmps20
  go_wp2_with fail
  go_loopw [3, 4] (fun v i wr => ∃ k : Nat, k ≤ zss.length ∧ i = .int .i64 k ∧ wr.ownsRow w.heap.size 3 1 v (zss.take k).flatten.length (ints (zss.take k).flatten) ∧ Below w.heap.size w wr) (fun _ i _ => zss.length - (intOf i).toNat)
  case atStart => exact ⟨0, by omega, rfl, ho1, hb1⟩
  case round =>
    clear ho1 hb1
    obtain ⟨k, hk, rfl, hown, hb⟩ := hrel
    by_cases hlt : k < zss.length
    · obtain ⟨ad, A', c', rfl, hc, hr⟩ := (hx.below hb).at_ hlt
      have hkl : k < ls.length := by omega
      have hss := sum_take_succ hkl
      have hle := sum_take_le ls (k + 1)
      have hge := HGE.out k hlt
      rw [List.getElem?_eq_getElem hkl, Option.getD_some] at hge
      have hft := HFT.out k
      have HFS := Lib.hid (flat_succ hlt)
      obtain ⟨Ao, co, rfl⟩ := own_slice hown
      have hb1 : (zss.take k).flatten.length + zss[k].length ≤ 1048576 := by omega
      clear hss hle hge hft
      go_wp2_with (at_builtin; go_loud (refine wpList_append_any _ rfl _ _ 22 rfl w.heap.size 3 i0 _ 1 8 Try.underlying22 hi hz0 hz1 hz2 rfl (by decide) _ _ _ rfl hown w.heap.size A' zss[k].length c' (ints zss[k]) rfl hr (by intro u hu; simp only [ints, List.mem_map] at hu; obtain ⟨z, _, rfl⟩ := hu; rfl) (by unfold maxLen; omega) (by omega) hb.size ?_; intro v3 w3 hown3 hg3 hat3))
      have hb3 := hb.trans (below_of_grown (B := w.heap.size) hg3 hb.size (fun q hq => (own_lt hown q hq).1))
      go_roundw
      case rel => exact ⟨k + 1, by omega, by go_num, by rw [HFS.out]; simpa [ints] using hown3, hb3⟩
      case measure => simp [intOf]; omega
    · have hke : zss.take k = zss := List.take_of_length_le (by omega)
      rw [hke] at hown
      clear hke
      obtain ⟨Ao, co, rfl⟩ := own_slice hown
      go_wp2_with fail
      go_ret
      exact ⟨_, rfl, hown, hb⟩
theorem vIntsI_t (A B : Option Addr) (xs ys : List Int) (n c d : Nat) (w : World) (he : xs = ys) (hn : xs.length = n) (hn2 : n ≤ 1048576) (hx : Reads w w.heap.size 1 A n (ints xs)) (hy : Reads w w.heap.size 1 B n (ints ys)) :
    Calls Try.prog 16 #[.slice A n c, .slice B n d] w fun e w' => e = .returned (.bool true) ∧ ∃ n, w' = w.drewN n := by
  subst he
  subst hn
  refine (vInts_any A B xs xs c d w hx hy (by omega) (by omega)).mono ?_
  rintro e w' ⟨rfl, h⟩
  exact ⟨by simp, h⟩
set_option maxRecDepth 100000 in
set_option maxHeartbeats 3200000 in
theorem FnIncreasing_any (A : Option Addr) (bs : List Nat) (c : Nat) (w : World) (hr : Reads w w.heap.size 1 A bs.length (byts bs)) (hm : bs.length ≤ maxLen) (hbb : ∀ b ∈ bs, b ≤ 255) :
    Calls Try.prog 5 #[.slice A bs.length c] w fun e w' => e = .returned (.bool true) ∧ Below w.heap.size w w' := by
  have e3 : ∀ x : Int, (x != x) = false := by simp
  have HVB := Lib.hid (fun w => vBig_any A bs.length c w hm)
  by_cases hbig : 65536 < bs.length
  case pos =>
    have HB := Lib.hid (show decide (65536 < bs.length) = true by simpa using hbig)
    clear hbig
    go_enter Try.func5, Try.ntmps5
    go_wp2_with (go_at_call 12; refine (HVB.out _).mono ?_; rintro e w' ⟨rfl, rfl⟩; rw [HB.out])
    go_ret
    exact ⟨rfl, Below.refl _ _⟩
  have hsm : bs.length ≤ 65536 := by omega
  have HB := Lib.hid (show decide (65536 < bs.length) = false by simpa using hbig)
  clear hbig
  have HD := Lib.hid (vList_any A bs c w hr hbb hsm)
  clear hr hbb hsm
  go_enter Try.func5, Try.ntmps5
  go_wp2_with (go_at_call 12; refine (HVB.out _).mono ?_; rintro e w' ⟨rfl, rfl⟩; rw [HB.out])
  refine HD.out.mono ?_
  rintro e w1 ⟨v, zs, rfl, hO, hv, hb1⟩
  have h64 : zs.length ≤ 64 := by simp [vList] at hv; exact hv.1
  obtain ⟨AV, CV, rfl⟩ := own_slice hO
  have HV := Lib.hid hv; clear hv
  obtain ⟨n, hn⟩ : ∃ n, zs.length = n := ⟨_, rfl⟩
  rw [hn] at hO h64 ⊢
  have HN := Lib.hid hn
  clear hn
  go_wp2_with fail
  refine (LongestIncreasing_any AV zs n CV _ (Reads.of_own hO) HN.out HV.out).mono ?_
  rintro e w2 ⟨AL, CL, rfl, oL, hb2⟩
  have hO2 := own_below hO hb2 (Nat.le_refl _)
  have hB2 := hb1.trans (hb2.mono hb1.size)
  go_wp2_with fail
  refine (PatiencePiles_any AV zs n CV _ (Reads.of_own hO2) HN.out HV.out).mono ?_
  rintro e w3 ⟨AP, CP, rfl, oP, hb3⟩
  have hO3 := own_below hO2 hb3 (Nat.le_refl _)
  have oL3 := own_below oL hb3 (Nat.le_refl _)
  have hB3 := hB2.trans (hb3.mono hB2.size)
  obtain ⟨p, hp⟩ : ∃ p, (ppV zs).length = p := ⟨_, rfl⟩
  have hlp : (liV zs).length = p := by rw [← hp, pp_count, ← liP_len]; simp [liV]
  have hpn : p ≤ n := by have := li_le zs; rw [HN.out, hlp] at this; exact this
  have HPF := Lib.hid (ppV_facts zs).2
  have HPO := Lib.hid (ppV_facts zs).1
  have hfl : (ppV zs).flatten.length = n := by rw [(ppV_facts zs).2.length_eq, HN.out]
  have HPL := Lib.hid hp
  have HLP := Lib.hid hlp
  have HFL := Lib.hid hfl
  have hsum : ((ppV zs).map List.length).sum = n := by rw [← List.length_flatten, hfl]
  have HSM := Lib.hid hsum
  rw [hlp] at oL3 ⊢
  rw [hp]
  clear hfl hsum hp hlp oL hO hO2 hb1 hb2 hb3 hB2
  have HRJ : Hid (Calls Try.prog 20 #[.slice AP p CP] w3 fun e w' => ∃ v, e = .returned v ∧ w'.ownsRow w3.heap.size 3 1 v n (ints (ppV zs).flatten) ∧ Below w3.heap.size w3 w') := Lib.hid (by
    have h9 := rJoin_any AP (ppV zs) CP w3 (ReadsRR.of_own oP) (by rw [HPL.out]; omega) (by rw [HSM.out]; omega)
    rw [HPL.out, HFL.out] at h9
    exact h9)
  have HP3 : Hid (ReadsRR w3 w3.heap.size AP (ppV zs)) := Lib.hid (ReadsRR.of_own oP)
  have HO3 := Lib.hid hO3
  have HL3 := Lib.hid oL3
  have HB3 := Lib.hid hB3
  clear hO3 oL3 hB3 oP
  go_wp2_with fail
  refine HRJ.out.mono ?_
  rintro e w4 ⟨vj, rfl, oJ, hb4⟩
  obtain ⟨AJ, CJ, rfl⟩ := own_slice oJ
  have HO4 := Lib.hid (own_below HO3.out hb4 (Nat.le_refl _))
  have HL4 := Lib.hid (own_below HL3.out hb4 (Nat.le_refl _))
  have HP4 := Lib.hid (HP3.out.below hb4)
  have HB4 := Lib.hid (HB3.out.trans (hb4.mono HB3.out.size))
  have HS4 : Hid (w3.heap.size ≤ w4.heap.size) := Lib.hid hb4.size
  clear hb4 HO3 HL3 HP3 HB3
  have HVO1 : Hid (Calls Try.prog 17 #[.slice AJ n CJ] w4 fun e w' => ∃ v, e = .returned v ∧ w'.ownsRow w4.heap.size 3 1 v n (ints (srt (ppV zs).flatten)) ∧ Below w4.heap.size w4 w') := Lib.hid (by
    have h9 := vOrdered_any AJ (ppV zs).flatten CJ w4 (by rw [HFL.out]; exact Reads.of_own oJ) (by rw [HFL.out]; omega)
    rw [HFL.out] at h9
    exact h9)
  clear oJ
  go_wp2_with fail
  refine HVO1.out.mono ?_
  rintro e w5 ⟨v5, rfl, o5, hb5⟩
  obtain ⟨A5, C5, rfl⟩ := own_slice o5
  have HO5 := Lib.hid (own_below HO4.out hb5 (Nat.le_refl _))
  have HL5 := Lib.hid (own_below HL4.out hb5 (Nat.le_refl _))
  have HP5 := Lib.hid (HP4.out.below (hb5.mono HS4.out))
  have HB5 := Lib.hid (HB4.out.trans (hb5.mono HB4.out.size))
  have HS5 : Hid (w3.heap.size ≤ w5.heap.size) := Lib.hid (Nat.le_trans HS4.out hb5.size)
  have H5 := Lib.hid o5
  clear hb5 o5 HO4 HL4 HP4 HB4
  have HVO2 : Hid (Calls Try.prog 17 #[.slice AV n CV] w5 fun e w' => ∃ v, e = .returned v ∧ w'.ownsRow w5.heap.size 3 1 v n (ints (srt zs)) ∧ Below w5.heap.size w5 w') := Lib.hid (by
    have h9 := vOrdered_any AV zs CV w5 (by rw [HN.out]; exact Reads.of_own HO5.out) (by rw [HN.out]; omega)
    rw [HN.out] at h9
    exact h9)
  go_wp2_with fail
  refine HVO2.out.mono ?_
  rintro e w6 ⟨v6, rfl, o6, hb6⟩
  obtain ⟨A6, C6, rfl⟩ := own_slice o6
  have HO6 := Lib.hid (own_below HO5.out hb6 (Nat.le_refl _))
  have HL6 := Lib.hid (own_below HL5.out hb6 (Nat.le_refl _))
  have HP6 := Lib.hid (HP5.out.below (hb6.mono HS5.out))
  have HB6 := Lib.hid (HB5.out.trans (hb6.mono HB5.out.size))
  have HS6 : Hid (w3.heap.size ≤ w6.heap.size) := Lib.hid (Nat.le_trans HS5.out hb6.size)
  have H56 := Lib.hid (own_below H5.out hb6 (Nat.le_refl _))
  have H6 := Lib.hid o6
  clear hb6 o6 HO5 HL5 HP5 HB5
  go_wp2_with fail
  refine (vIntsI_t A5 A6 (srt (ppV zs).flatten) (srt zs) n C5 C6 w6 (srt_congr HPF.out) (by rw [srt_len, HFL.out]) (by omega) (Reads.of_own H56.out) (Reads.of_own H6.out)).mono ?_
  rintro e w7 ⟨rfl, n7, rfl⟩
  have HO7 : Hid ((w6.drewN n7).ownsRow w.heap.size 3 1 (.slice AV n CV) n (ints zs)) := Lib.hid HO6.out
  have HL7 := Lib.hid (own_below HL6.out (below_drewN (Below.refl _ _) n7) (Nat.le_refl _))
  have HP7 := Lib.hid (HP6.out.drewN n7)
  have HB7 := Lib.hid (below_drewN HB6.out n7)
  have HS7 : Hid (w3.heap.size ≤ (w6.drewN n7).heap.size) := Lib.hid HS6.out
  generalize w6.drewN n7 = w7 at *
  clear H5 H56 H6 HVO1 HVO2 HRJ HO6 HL6 HP6 HB6 HS4 HS5 HS6
  have HLL : Hid ((liP zs).length = p) := Lib.hid (by rw [← HLP.out]; simp [liV])
  go_wp2_with fail
  go_loopw [8] (fun vi wr => ∃ k : Nat, k ≤ p ∧ vi = .int .i64 (k : Nat) ∧ Hid (Below w7.heap.size w7 wr)) (fun vi _ => p - (intOf vi).toNat)
  case atStart => exact ⟨0, by omega, rfl, Lib.hid (Below.refl _ _)⟩
  case round =>
    obtain ⟨k, hk, rfl, HB⟩ := hrel
    by_cases hlt : k < p
    · obtain ⟨j, x, hj1, hj2, hjn, hj3⟩ := liP_at (zs := zs) (k := k) (by rw [HLL.out]; exact hlt)
      rw [HN.out] at hjn
      have oL := own_below HL7.out HB.out (Nat.le_refl _)
      have oV := own_below HO7.out HB.out (Nat.le_refl _)
      obtain ⟨gL, cL, eL, -, -, -, -⟩ := own_some oL (by omega)
      cases eL
      obtain ⟨gV, cV, eV, -, -, -, -⟩ := own_some oV (by omega)
      cases eV
      have c1 := oL.cellAt k (by omega)
      rw [ints_at hj2] at c1
      have c2 := oV.cellAt j (by omega)
      rw [ints_at hj3] at c2
      have kI : (k : Int) < (p : Int) := by omega
      have jI : (j : Int) < (n : Int) := by omega
      have jN : ¬ (j : Int) ≥ (n : Int) := by omega
      have n0 : ¬ (j : Int) < 0 := by omega
      have HBE := Lib.hid (fun m => below_drewN HB.out m)
      rcases k with _ | q
      · clear hj1 hj2 hj3
        go_upto_region 11 with fail
        go_quiet (fail)
        go_wp2_with fail
        go_roundw
        case rel => exact ⟨1, by omega, by go_num, Lib.hid (HBE.out _)⟩
        case measure => simp [intOf]; omega
      · obtain ⟨i, y, hi1, hi2, hin, hi3⟩ := liP_at (zs := zs) (k := q) (by rw [HLL.out]; omega)
        rw [HN.out] at hin
        obtain ⟨hij, hxy⟩ := liP_two hi1 hj1
        have c3 := oL.cellAt q (by omega)
        rw [ints_at hi2] at c3
        have c4 := oV.cellAt i (by omega)
        rw [ints_at hi3] at c4
        have ecast : ((q + 1 : Nat) : Int) = (q : Int) + 1 := by omega
        rw [ecast] at kI ⊢
        have f0 : (0 : Int) ≤ (q : Int) + 1 := by omega
        have f0' : (0 : Int) < (q : Int) + 1 := by omega
        have f1 : ((q : Int) + 1).toNat = q + 1 := by omega
        have wq : IntKind.i64.wrap (q : Int) = q := IntWalk.i64_in _ ⟨by omega, by omega⟩
        have qI : (q : Int) < p := by omega
        have iI : (i : Int) < n := by omega
        have nij : ¬ (i : Int) ≥ j := by omega
        have nij2 : ¬ (j : Int) ≤ i := by omega
        have nij3 : ¬ j ≤ i := by omega
        have nxy : ¬ y ≥ x := by omega
        have nxy2 : ¬ x ≤ y := by omega
        clear ecast hj1 hj2 hj3 hi1 hi2 hi3
        go_upto_region 11 with fail
        go_quiet (fail)
        go_wp2_with fail
        go_roundw
        case rel => exact ⟨q + 1 + 1, by omega, by go_num, Lib.hid (HBE.out _)⟩
        case measure => simp [intOf]; omega
    · have kI : ¬ (k : Int) < (p : Int) := by omega
      go_wp2_with fail
      go_loopw [9] (fun vi wr2 => ∃ k : Nat, k ≤ p ∧ vi = .int .i64 (k : Nat) ∧ Hid (Below w7.heap.size w7 wr2)) (fun vi _ => p - (intOf vi).toNat)
      case atStart => exact ⟨0, by omega, rfl, HB⟩
      case round =>
        obtain ⟨i, hi, rfl, HBi⟩ := hrel
        by_cases hip : i < p
        · have iI : (i : Int) < (p : Int) := by omega
          have hiP : i < (ppV zs).length := by rw [HPL.out]; exact hip
          have hok := HPO.out _ (List.getElem_mem hiP)
          have hzl : (ppV zs)[i].length ≤ 64 := by
            have h3 := le_sum (ls := (ppV zs).map List.length) (i := i) (by simpa using hiP)
            rw [HSM.out] at h3
            simp at h3
            omega
          have HAT := Lib.hid (fun wq (h : Below w7.heap.size w7 wq) => (HP7.out.below (h.mono HS7.out)).at_ hiP)
          obtain ⟨z, hz⟩ : ∃ z, (ppV zs)[i] = z := ⟨_, rfl⟩
          rw [hz] at hok hzl HAT
          obtain ⟨t, ht⟩ : ∃ t, z.length = t := ⟨_, rfl⟩
          rw [ht] at hzl HAT
          have HT := Lib.hid ht
          have ht0 : 0 < t := by rw [← ht]; exact List.length_pos_iff.2 hok.1
          have HOK := Lib.hid hok.2
          clear hok hz ht hiP
          go_wp2_with fail
          go_loopw [10] (fun vk wr3 => ∃ q : Nat, q + 1 ≤ t ∧ vk = .int .i64 ((q : Int) + 1) ∧ Hid (Below w7.heap.size w7 wr3)) (fun vk _ => t - (intOf vk).toNat)
          case atStart => exact ⟨0, by omega, rfl, HBi⟩
          case round =>
            obtain ⟨q, hq, rfl, HBq⟩ := hrel
            obtain ⟨ad, Az, cz, rfl, d1, r1⟩ := HAT.out _ HBq.out
            by_cases hqt : q + 1 < t
            · have qI : (q : Int) + 1 < (t : Int) := by omega
              obtain ⟨az, u1, rfl, -, hu1, d2⟩ := r1.at_ hqt
              obtain ⟨az', u2, e2, -, hu2, d3⟩ := r1.at_ (k := q) (by omega)
              cases e2
              have hq1 : q + 1 < z.length := by rw [HT.out]; exact hqt
              rw [ints_get hq1] at hu1
              cases hu1
              rw [ints_get (show q < z.length by omega)] at hu2
              cases hu2
              have hge := List.pairwise_iff_getElem.1 HOK.out q (q + 1) (by omega) hq1 (by omega)
              rw [add_succI] at d2
              generalize z[q + 1] = y at *
              generalize z[q] = x at *
              have nyx : ¬ y > x := by omega
              have nyx2 : ¬ x < y := by omega
              have f0 : (0 : Int) ≤ (q : Int) + 1 := by omega
              have f1 : ((q : Int) + 1).toNat = q + 1 := by omega
              have wq : IntKind.i64.wrap (q : Int) = q := IntWalk.i64_in _ ⟨by omega, by omega⟩
              have qI2 : (q : Int) < (t : Int) := by omega
              clear hge hq1 r1
              go_upto_region 19 with fail
              go_quiet (fail)
              go_wp2_with fail
              go_roundw
              case rel => exact ⟨q + 1, by omega, by go_num, Lib.hid (below_drewN HBq.out _)⟩
              case measure => simp [intOf]; omega
            · have qI : ¬ (q : Int) + 1 < (t : Int) := by omega
              have t0 : ((t : Int) == 0) = false := by rw [beq_eq_false_iff_ne]; omega
              clear r1
              go_wp2_with fail
              go_roundw
              case rel => exact ⟨i + 1, by omega, by go_num, HBq⟩
              case measure => simp [intOf]; omega
        · have iI : ¬ (i : Int) < (p : Int) := by omega
          go_wp2_with fail
          go_ret
          exact ⟨rfl, HB7.out.trans (HBi.out.mono HB7.out.size)⟩
end Go.Proofs.Ytfpojoabfdiadaa
