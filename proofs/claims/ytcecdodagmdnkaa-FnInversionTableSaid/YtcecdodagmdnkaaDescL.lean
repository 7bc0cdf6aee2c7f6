/- The walk of the law on descents. -/
import Derived.Test.YtcecdodagmdnkaaDescS
import Derived.Test.YtcecdodagmdnkaaVL
namespace Go.Proofs.Ytcecdodagmdnkaa
open Go.RowKit
set_option linter.unusedVariables false
theorem sumW_small {l : List Int} {M : Int} (h : ∀ x ∈ l, 0 ≤ x ∧ x ≤ M) (hM : M ≤ 65536) (hl : l.length ≤ 65536) : sumW l = l.sum ∧ 0 ≤ l.sum ∧ l.sum ≤ l.length * M := by
  have key : ∀ k, k ≤ l.length → sumW (l.take k) = (l.take k).sum ∧ 0 ≤ (l.take k).sum ∧ (l.take k).sum ≤ k * M := by
    intro k
    induction k with
    | zero => intro _; exact ⟨rfl, by simp, by simp⟩
    | succ k ih =>
      intro hk
      obtain ⟨h1, h2, h3⟩ := ih (by omega)
      have h4 : (l.take (k + 1)).sum = (l.take k).sum + l[k] := by rw [List.take_succ_eq_append_getElem (by omega), List.sum_append]; simp
      have h7 := h l[k] (List.getElem_mem (by omega))
      have e : ((k + 1 : Nat) : Int) * M = k * M + M := by rw [Int.natCast_add, Int.add_mul]; simp
      have hb : (k : Int) * M ≤ 65536 * 65536 := Int.mul_le_mul (by omega) hM (by omega) (by omega)
      refine ⟨?_, by omega, by omega⟩
      rw [sumW_succ (by omega), h1, h4]
      exact IntWalk.wrap64_in _ ⟨by omega, by omega⟩
  have := key l.length (Nat.le_refl _)
  rw [List.take_of_length_le (Nat.le_refl _)] at this
  exact this
theorem desc_facts (zs : List Int) : ∃ ns : List Nat, ns.length = (descL zs).length ∧ (∀ k j : Nat, ns[k]? = some j → j + 1 < zs.length ∧ zs[j + 1]?.getD 0 < zs[j]?.getD 0 ∧ (ints (descL zs))[k]? = some (.int .i64 (j : Nat))) ∧
    (∀ k i j : Nat, ns[k]? = some i → ns[k + 1]? = some j → i < j) := by
  refine ⟨descN zs, (descL_len zs).symm, fun k j h => ?_, fun k i j h1 h2 => ?_⟩
  · have hm := descN_mem (List.mem_of_getElem? h)
    exact ⟨hm.1, hm.2, by simp [ints, descL, h]⟩
  · obtain ⟨h3, rfl⟩ := List.getElem?_eq_some_iff.1 h1
    obtain ⟨h4, rfl⟩ := List.getElem?_eq_some_iff.1 h2
    exact List.pairwise_iff_getElem.1 (descN_lt zs) k (k + 1) h3 h4 (by omega)
set_option maxRecDepth 100000 in
set_option maxHeartbeats 6400000 in
theorem FnDescents_any (A : Option Addr) (bs : List Nat) (c : Nat) (w : World) (hr : Reads w w.heap.size 1 A bs.length (byts bs)) (hm : bs.length ≤ maxLen) (hbb : ∀ b ∈ bs, b ≤ 255) :
    Calls Try.prog 3 #[.slice A bs.length c] w fun e w' => e = .returned (.bool true) ∧ Below w.heap.size w w' := by
  have HVB := Lib.hid (fun w => vBig_any A bs.length c w hm)
  by_cases hbig : 65536 < bs.length
  case pos =>
    have HB := Lib.hid (show decide (65536 < bs.length) = true by simpa using hbig)
    clear hbig
    go_enter Try.func3, Try.ntmps3
    go_wp2_with (go_at_call 7; refine (HVB.out _).mono ?_; rintro e w' ⟨rfl, rfl⟩; rw [HB.out])
    go_ret
    exact ⟨rfl, Below.refl _ _⟩
  have hsm : bs.length ≤ 65536 := by omega
  have HB := Lib.hid (show decide (65536 < bs.length) = false by simpa using hbig)
  clear hbig
  have HD := Lib.hid (vList_any A bs c w hr hbb hsm)
  clear hr hbb hsm
  go_enter Try.func3, Try.ntmps3
  go_wp2_with (go_at_call 7; refine (HVB.out _).mono ?_; rintro e w' ⟨rfl, rfl⟩; rw [HB.out])
  refine HD.out.mono ?_
  rintro e w1 ⟨v, zs, rfl, hO, hv, hb1⟩
  have h64 : zs.length ≤ 64 := by simp [vList] at hv; exact hv.1
  obtain ⟨AV, CV, rfl⟩ := own_slice hO
  have HV := Lib.hid hv; clear hv
  go_wp2_with fail
  refine (Descents_any AV zs CV _ (Reads.of_own hO) HV.out).mono ?_
  rintro e w2 ⟨D, d, rfl, oD, hb2⟩
  have hO2 := own_below hO hb2 (Nat.le_refl _)
  have hB2 := hb1.trans (hb2.mono hb1.size)
  have hcap := own_cap2 hO2
  go_wp2_with fail
  refine (MajorIndex_any AV zs CV _ (Reads.of_own hO2) HV.out).mono ?_
  rintro e w3 ⟨rfl, hb3⟩
  have hO3 := own_below hO2 hb3 (Nat.le_refl _)
  have oD3 := own_below oD hb3 (Nat.le_refl _)
  have hB3 := hB2.trans (hb3.mono hB2.size)
  go_wp2_with fail
  refine (CountInversions_any AV zs CV _ (Reads.of_own hO3) HV.out hcap.1 hcap.2).mono ?_
  rintro e w4 ⟨rfl, hb4⟩
  have hO4 := own_below hO3 hb4 (Nat.le_refl _)
  have oD4 := own_below oD3 hb4 (Nat.le_refl _)
  have hB4 := hB3.trans (hb4.mono hB3.size)
  have HIL := Lib.hid (invTab_len zs)
  obtain ⟨s1, s2, s3⟩ := sumW_small (l := invTab zs) (M := zs.length) (invTab_bd zs) (by omega) (by rw [HIL.out]; omega)
  have hdn := desc_none zs
  have hdi := desc_le_inv zs
  rw [← s1] at hdn hdi s2
  have hdl := descN_len zs
  rw [← descL_len] at hdl
  obtain ⟨ns, hnl0, hn1, hn2⟩ := desc_facts zs
  have HN1 := Lib.hid hn1
  have HN2 := Lib.hid hn2
  have HLL := Lib.hid hnl0
  clear hn1 hn2 hnl0
  generalize hdd : descL zs = ds at *
  generalize hss : sumW (invTab zs) = nI at *
  clear hdd hss s1 s3 HIL
  have hlz : ((ds.length : Int) == 0) = (nI == 0) := by
    rw [← hdn, Bool.eq_iff_iff]; simp only [beq_iff_eq]; omega
  have hnl : ¬ nI < (ds.length : Int) := by omega
  clear hdn hdi s2
  go_wp2_with (go_at_call 12; refine (rSum_any D ds d _ (Reads.of_own oD4) (by omega)).mono ?_; rintro e w' ⟨rfl, rfl⟩)
  go_loopw [10] (fun i wr => ∃ k : Nat, k ≤ ds.length ∧ i = .int .i64 (k : Nat) ∧ Below w4.heap.size w4 wr) (fun i _ => ds.length - (intOf i).toNat)
  case atStart => exact ⟨0, by omega, rfl, Below.refl _ _⟩
  case round =>
    obtain ⟨k, hk, rfl, hb⟩ := hrel
    by_cases hlt : k < ds.length
    · have hkn : k < ns.length := by rw [HLL.out]; exact hlt
      obtain ⟨j, hj⟩ : ∃ j, ns[k]? = some j := ⟨_, List.getElem?_eq_getElem hkn⟩
      obtain ⟨hj1, hjv, hjc⟩ := HN1.out k j hj
      have oDr := own_below oD4 hb (Nat.le_refl _)
      have oLr := own_below hO4 hb (Nat.le_refl _)
      obtain ⟨gD, cD, eD, -, -, -⟩ := own_some oDr (by omega)
      cases eD
      obtain ⟨gL, cL, eL, -, -, -⟩ := own_some oLr (by omega)
      cases eL
      have c1 := oDr.cellAt k (by omega)
      rw [hjc] at c1
      have c2 := oLr.cellAt j (by omega)
      rw [ints_get (by omega)] at c2
      have c3 := oLr.cellAt (j + 1) (by omega)
      rw [ints_get hj1] at c3
      rw [List.getElem?_eq_getElem hj1, List.getElem?_eq_getElem (show j < zs.length by omega)] at hjv
      simp only [Option.getD_some] at hjv
      have hkI : (k : Int) < ds.length := by omega
      have hj1I : (j : Int) + 1 < zs.length := by omega
      have hj1N : ¬ (j : Int) + 1 ≥ zs.length := by omega
      have hjI : (j : Int) < zs.length := by omega
      have e0 : (0 : Int) ≤ (j : Int) + 1 := by omega
      have e1 : ((j : Int) + 1).toNat = j + 1 := by omega
      have w1' : IntKind.i64.wrap ((j : Int) + 1) = (j : Int) + 1 := IntWalk.i64_in _ ⟨by omega, by omega⟩
      have n0 : ¬ (j : Int) < 0 := by omega
      generalize zs[j + 1] = y at *
      generalize zs[j] = x at *
      have nxy : ¬ x ≤ y := by omega
      have nyx : y < x := by omega
      have HJ := Lib.hid hj
      have HBE := Lib.hid (fun n => below_drewN hb n)
      clear hj hjc hjv
      rcases k with _ | q
      · go_upto_region 12 with fail
        go_quiet (fail)
        go_wp2_with fail
        go_roundw
        case rel => exact ⟨1, by omega, by go_num, HBE.out _⟩
        case measure => simp [intOf]; omega
      · have hqn : q < ns.length := by omega
        obtain ⟨i, hi⟩ : ∃ i, ns[q]? = some i := ⟨_, List.getElem?_eq_getElem hqn⟩
        obtain ⟨-, -, hic⟩ := HN1.out q i hi
        have hij := HN2.out q i j hi HJ.out
        have c0 := oDr.cellAt q (by omega)
        rw [hic] at c0
        clear hi hic
        have ecast : ((q + 1 : Nat) : Int) = (q : Int) + 1 := by omega
        rw [ecast] at hkI ⊢
        have f0 : (0 : Int) ≤ (q : Int) + 1 := by omega
        have f0' : (0 : Int) < (q : Int) + 1 := by omega
        have f1 : ((q : Int) + 1).toNat = q + 1 := by omega
        have wq : IntKind.i64.wrap (q : Int) = q := IntWalk.i64_in _ ⟨by omega, by omega⟩
        have qI : (q : Int) < ds.length := by omega
        have nij : ¬ (i : Int) ≥ j := by omega
        have nij2 : ¬ (j : Int) ≤ i := by omega
        have nij3 : ¬ j ≤ i := by omega
        clear ecast
        go_upto_region 12 with fail
        go_quiet (fail)
        go_wp2_with fail
        go_roundw
        case rel => exact ⟨q + 1 + 1, by omega, by go_num, HBE.out _⟩
        case measure => simp [intOf]; omega
    · have hkI : ¬ (k : Int) < ds.length := by omega
      go_wp2_with fail
      go_ret
      exact ⟨rfl, hB4.trans (hb.mono hB4.size)⟩
end Go.Proofs.Ytcecdodagmdnkaa
