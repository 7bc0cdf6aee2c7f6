/- The walk of the law on inversion tables. -/
import Derived.Test.YtcecdodagmdnkaaDescL
import Derived.Test.YtcecdodagmdnkaaPerm
import Derived.Test.YtcecdodagmdnkaaFitI
import Derived.Test.YtcecdodagmdnkaaFitS
import Derived.Test.YtcecdodagmdnkaaDrawF
import Derived.Test.YtcecdodagmdnkaaROrd
namespace Go.Proofs.Ytcecdodagmdnkaa
open Go.RowKit
set_option linter.unusedVariables false
set_option maxRecDepth 100000 in
theorem InversionTable_any (A : Option Addr) (zs : List Int) (c : Nat) (w : World) (hx : Reads w w.heap.size 1 A zs.length (ints zs)) (hv : permB zs = true) (hc : zs.length ≤ c) (hcm : c ≤ maxLen) :
    Calls Try.prog 15 #[.slice A zs.length c] w fun e w' => ∃ D d, e = .returned (.tuple #[.slice D (invTab zs).length d, .bool true]) ∧ w'.ownsRow w.heap.size 3 1 (.slice D (invTab zs).length d) (invTab zs).length (ints (invTab zs)) ∧ Below w.heap.size w w' := by
  have h64 : zs.length ≤ 64 := (permB_iff hv).1
  have HV := Lib.hid hv; clear hv
  go_enter Try.func15, Try.ntmps15
  go_wp2_with (go_at_call 34; refine (IsValidPermutation_any A zs c _ hx (by omega)).mono ?_; rintro e w1 ⟨rfl, hb1⟩; rw [HV.out])
  refine (inversionTable_any A zs c _ ((hx.below hb1).more hb1.size) (by omega) hc hcm).mono ?_
  rintro e w2 ⟨v, rfl, own2, hb2⟩
  obtain ⟨D, d, rfl⟩ := own_slice own2
  go_wp2_with fail
  exact bodyPost_ret (v := .tuple #[.slice D (invTab zs).length d, .bool true]) (by simp [results, Try.results15, go_sem]) rfl ⟨D, d, rfl, own_base own2 hb1.size, bthen hb1 hb2⟩
set_option maxRecDepth 100000 in
set_option maxHeartbeats 6400000 in
theorem FnInversionTable_any (A : Option Addr) (bs : List Nat) (c : Nat) (w : World) (hr : Reads w w.heap.size 1 A bs.length (byts bs)) (hm : bs.length ≤ maxLen) (hbb : ∀ b ∈ bs, b ≤ 255) :
    Calls Try.prog 4 #[.slice A bs.length c] w fun e w' => e = .returned (.bool true) ∧ Below w.heap.size w w' := by
  have HVB := Lib.hid (fun w => vBig_any A bs.length c w hm)
  by_cases hbig : 65536 < bs.length
  case pos =>
    have HB := Lib.hid (show decide (65536 < bs.length) = true by simpa using hbig)
    clear hbig
    go_enter Try.func4, Try.ntmps4
    go_wp2_with (go_at_call 7; refine (HVB.out _).mono ?_; rintro e w' ⟨rfl, rfl⟩; rw [HB.out])
    go_ret
    exact ⟨rfl, Below.refl _ _⟩
  have hsm : bs.length ≤ 65536 := by omega
  have HB := Lib.hid (show decide (65536 < bs.length) = false by simpa using hbig)
  clear hbig
  have HAT := Lib.hid (vAt_any A bs c 0 w hr hbb hsm (by omega))
  have HRO := Lib.hid (fun n hn => rOrder_any A bs c n w hr hbb hsm hn)
  have HDR := Lib.hid (fun w' (h : Below w.heap.size w w') => DrawFromInversionTable_any A bs c w' ((hr.below h).more h.size) hbb hsm)
  have e1 : ∀ x : Int, (x != x) = false := by simp
  have e2 : ∀ x : Bool, (x == x) = true := by simp
  have hxb := atV_lt hbb 0
  clear hr hbb
  generalize atV bs 0 = x at *
  obtain ⟨k, hk⟩ : ∃ k : Nat, (x : Int) % 12 = (k : Int) := Int.eq_ofNat_of_zero_le (Int.emod_nonneg (x : Int) (by omega))
  have hk12 : k ≤ 11 := by omega
  have HK := Lib.hid hk
  have HN : Hid ((1 : Int) + (k : Int) = ((1 + k : Nat) : Int)) := Lib.hid (by omega)
  clear hk
  go_enter Try.func4, Try.ntmps4
  go_wp2_with (first | (go_at_call 7; refine (HVB.out _).mono ?_; rintro e w' ⟨rfl, rfl⟩; rw [HB.out]) | (go_at_call 14; refine HAT.out.mono ?_; rintro e w' ⟨rfl, rfl⟩) | (go_at_call 13; rw [HK.out, HN.out]; refine (HRO.out (1 + k) (by omega)).mono ?_; rintro e w1 ⟨v1, p, rfl, hO, hp, hb1⟩))
  obtain ⟨AP, CP, rfl⟩ := own_slice hO
  obtain ⟨hpb, hpl⟩ := permB_perm hp (by omega)
  have hfb := fit_back (show 1 + k ≤ 64 by omega) hp
  have hvl : vList p = true := by
    obtain ⟨h1, h2, -⟩ := permB_iff hpb
    simp only [vList, Bool.and_eq_true, decide_eq_true_eq, List.all_eq_true]
    exact ⟨h1, fun y hy => inB_iff.2 (by have := h2 y hy; omega)⟩
  rw [← hpl] at hO ⊢
  have hpl12 : p.length ≤ 12 := by omega
  have HPB := Lib.hid hpb; have HFB := Lib.hid hfb; have HVL := Lib.hid hvl; have HIL := Lib.hid (invTab_len p)
  clear hpb hfb hvl hp hpl
  have hcap := own_cap2 hO
  go_wp2_with fail
  refine (InversionTable_any AP p CP _ (Reads.of_own hO) HPB.out hcap.1 hcap.2).mono ?_
  rintro e w2 ⟨D, d, rfl, oT, hb2⟩
  have hO2 := own_below hO hb2 (Nat.le_refl _)
  have hB2 := hb1.trans (hb2.mono hb1.size)
  clear hO hb1 hb2
  go_wp2_with fail
  refine (FromInversionTable_any D (invTab p) d _ (Reads.of_own oT) (by rw [HIL.out]; omega)).mono ?_
  rintro e w3 ⟨E, f, rfl, oP, hb3⟩
  have EV : fitV (invTab p) = p := by rw [fitV, HFB.out]; rfl
  have EO : fitOk (invTab p) = true := by rw [fitOk, HFB.out]; rfl
  rw [EV] at oP
  rw [EV, EO]
  have hO3 := own_below hO2 hb3 (Nat.le_refl _)
  have oT3 := own_below oT hb3 (Nat.le_refl _)
  have hB3 := hB2.trans (hb3.mono hB2.size)
  clear EV EO hO2 oT hB2 hb3
  go_wp2_with fail
  refine (CountInversions_any AP p CP _ (Reads.of_own hO3) HVL.out hcap.1 hcap.2).mono ?_
  rintro e w4 ⟨rfl, hb4⟩
  have hO4 := own_below hO3 hb4 (Nat.le_refl _)
  have oT4 := own_below oT3 hb4 (Nat.le_refl _)
  have oP4 := own_below oP hb4 (Nat.le_refl _)
  have hB4 := hB3.trans (hb4.mono hB3.size)
  clear hO3 oT3 oP hB3 hb4
  obtain ⟨s, hs⟩ : ∃ s, sumW (invTab p) = s := ⟨_, rfl⟩
  have HS := Lib.hid hs
  rw [hs]
  clear hs
  go_wp2_with (first | (go_at_call 17; refine (vInts_any E AP p p f CP w4 (Reads.of_own oP4) (Reads.of_own hO4) (by omega) (by omega)).mono ?_; rintro e w5 ⟨rfl, n5, rfl⟩; simp only [decide_true]) | (go_at_call 12; refine (rSum_any D (invTab p) d _ (Reads.of_own (show (w4.drewN n5).ownsRow _ 3 1 _ _ _ from oT4)) (by rw [HIL.out]; omega)).mono ?_; rintro e w' ⟨rfl, rfl⟩; rw [HS.out]))
  have hB5 : Below w.heap.size w (w4.drewN n5) := below_drewN hB4 n5
  clear hB4 oP4 oT4 hO4
  generalize w4.drewN n5 = w5 at *
  refine (HDR.out w5 hB5).mono ?_
  rintro e w6 ⟨v6, t, rfl, oD, hl6, hb6⟩
  obtain ⟨F, f6, rfl⟩ := own_slice oD
  have hB6 := hB5.trans (hb6.mono hB5.size)
  go_wp2_with fail
  refine (FromInversionTable_any F t f6 _ (Reads.of_own oD) (by omega)).mono ?_
  rintro e w7 ⟨G, g7, rfl, oG, hb7⟩
  have oD7 := own_below oD hb7 (Nat.le_refl _)
  have hB7 := hB6.trans (hb7.mono hB6.size)
  go_wp2_with fail
  refine (sFromInversionTable_any F t f6 _ (Reads.of_own oD7) (by omega)).mono ?_
  rintro e w8 ⟨K, g8, rfl, oK, hb8⟩
  have oG8 := own_below oG hb8 (Nat.le_refl _)
  have hB8 := hB7.trans (hb8.mono hB7.size)
  have hfl := fitV_len t
  clear oD oD7 oG hb6 hb7 hb8 hB5 hB6 hB7
  generalize fitV t = V at *
  generalize fitOk t = ok at *
  go_wp2_with (go_at_call 17; refine (vInts_any G K V V g7 g8 w8 (Reads.of_own oG8) (Reads.of_own oK) (by omega) (by omega)).mono ?_; rintro e w9 ⟨rfl, n9, rfl⟩; simp only [decide_true])
  go_ret
  exact ⟨rfl, below_drewN hB8 n9⟩
end Go.Proofs.Ytcecdodagmdnkaa
