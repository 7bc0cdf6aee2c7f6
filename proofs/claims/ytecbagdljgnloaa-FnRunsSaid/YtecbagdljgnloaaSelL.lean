/- The walk of the law on the runs of replacement selection. -/
import Derived.Test.YtecbagdljgnloaaRunM
import Derived.Test.YtecbagdljgnloaaDrawQ
namespace Go.Proofs.Ytecbagdljgnloaa
open Go.RowKit
set_option linter.unusedVariables false
theorem vInts_t (A B : Option Addr) (xs : List Int) (n c d : Nat) (w : World) (hn : xs.length = n) (hn2 : n ≤ 1048576) (hx : Reads w w.heap.size 1 A n (ints xs)) (hy : Reads w w.heap.size 1 B n (ints xs)) :
    Calls Try.prog 26 #[.slice A n c, .slice B n d] w fun e w' => e = .returned (.bool true) ∧ ∃ n, w' = w.drewN n := by
  subst hn
  refine (vInts_any A B xs xs c d w hx hy (by omega) (by omega)).mono ?_
  rintro e w' ⟨rfl, h⟩
  exact ⟨by simp, h⟩
set_option maxRecDepth 100000 in
set_option maxHeartbeats 3200000 in
theorem FnSelectionRuns_any (A : Option Addr) (bs : List Nat) (c : Nat) (w : World) (hr : Reads w w.heap.size 1 A bs.length (byts bs)) (hm : bs.length ≤ maxLen) (hbb : ∀ b ∈ bs, b ≤ 255) :
    Calls Try.prog 6 #[.slice A bs.length c] w fun e w' => e = .returned (.bool true) ∧ Below w.heap.size w w' := by
  have e2 : ∀ x : Bool, (x != x) = false := by simp
  have e3 : ∀ x : Int, (x != x) = false := by simp
  have HVB := Lib.hid (fun w => vBig_any A bs.length c w hm)
  by_cases hbig : 65536 < bs.length
  case pos =>
    have HB := Lib.hid (show decide (65536 < bs.length) = true by simpa using hbig)
    clear hbig
    go_enter Try.func6, Try.ntmps6
    go_wp2_with (go_at_call 18; refine (HVB.out _).mono ?_; rintro e w' ⟨rfl, rfl⟩; rw [HB.out])
    go_ret
    exact ⟨rfl, Below.refl _ _⟩
  have hsm : bs.length ≤ 65536 := by omega
  have HB := Lib.hid (show decide (65536 < bs.length) = false by simpa using hbig)
  clear hbig
  have HD := Lib.hid (DrawReplacementSelection_any A bs c w hr hbb hsm)
  clear hr hbb hsm
  go_enter Try.func6, Try.ntmps6
  go_wp2_with (go_at_call 18; refine (HVB.out _).mono ?_; rintro e w' ⟨rfl, rfl⟩; rw [HB.out])
  refine HD.out.mono ?_
  rintro e w1 ⟨AV, CV, zs, m, rfl, hO, hl65, hb1⟩
  have hcap := (own_cap2 hO).1
  have HCAP := Lib.hid hcap
  go_wp2_with fail
  refine (ReplacementSelection_any AV zs CV m _ (Reads.of_own hO) (by omega) hcap).mono ?_
  rintro e w2 ⟨AG, CG, rfl, oG, hb2⟩
  have hO2 := own_below hO hb2 (Nat.le_refl _)
  have hB2 := hb1.trans (hb2.mono hb1.size)
  go_wp2_with fail
  refine (sReplacementSelection_any AV zs CV m _ (Reads.of_own hO2) (by omega) hcap).mono ?_
  rintro e w3 ⟨AW, CW, rfl, oW, hb3⟩
  have HO3 := Lib.hid (own_below hO2 hb3 (Nat.le_refl _))
  have hB3 := hB2.trans (hb3.mono hB2.size)
  have HB3 := Lib.hid hB3
  have HG := Lib.hid (ReadsRR.of_own (oG.below hb3 (Nat.le_refl _)))
  have HW := Lib.hid (ReadsRR.of_own oW)
  have hR := (rp_len zs m).1
  have HLONG := Lib.hid (rp_long zs m)
  have HCNT := Lib.hid (rp_le_bt zs m)
  have hRS := (rp_len zs m).2
  obtain ⟨R, hRe⟩ : ∃ R, rpV zs m = R := ⟨_, rfl⟩
  obtain ⟨b, hbe⟩ : ∃ b, memOk zs m = b := ⟨_, rfl⟩
  rw [hRe] at hR hRS HLONG HCNT HG HW ⊢
  rw [hbe]
  have HRS : Hid (∀ k (hk : k < R.length), R[k].length ≤ 64) := Lib.hid (fun k hk => by
    have := le_sum (ls := R.map List.length) (i := k) (by simpa using hk)
    simp at this
    omega)
  obtain ⟨n, hn⟩ : ∃ n, R.length = n := ⟨_, rfl⟩
  have HN := Lib.hid hn
  rw [hn] at hR ⊢
  clear hRe hbe oG oW hb1 hb2 hb3 hO hO2 hB2 hB3 hn hcap hRS
  go_wp2_with fail
  go_loopw [9] (fun vi wr => ∃ k : Nat, k ≤ n ∧ vi = .int .i64 (k : Nat) ∧ Below w3.heap.size w3 wr) (fun vi _ => n - (intOf vi).toNat)
  case atStart => exact ⟨0, by omega, rfl, Below.refl _ _⟩
  case round =>
    obtain ⟨k, hk, rfl, hb⟩ := hrel
    by_cases hlt : k < n
    · have kI : (k : Int) < (n : Int) := by omega
      have hkR : k < R.length := by rw [HN.out]; exact hlt
      obtain ⟨adG, Ag, cg, rfl, c1, r1⟩ := (HG.out.below hb).at_ hkR
      obtain ⟨adW, Aw, cw, rfl, c2, r2⟩ := (HW.out.below hb).at_ hkR
      have hl := HRS.out k hkR
      have hlong := fun h => HLONG.out k h _ (List.getElem?_eq_getElem hkR)
      generalize R[k] = r at *
      obtain ⟨q, hq⟩ : ∃ q, r.length = q := ⟨_, rfl⟩
      have HQ := Lib.hid hq
      rw [hq] at c1 c2 r1 r2 hl hlong
      rw [HN.out] at hlong
      have HBE := Lib.hid (fun n => below_drewN hb n)
      have HVI := Lib.hid (fun j => vInts_t Ag Aw r q cg cw (wr.drewN j) HQ.out (by omega) ((r1.drewN j).more hb.size) ((r2.drewN j).more hb.size))
      have ew : IntKind.i64.wrap ((k : Int) + 1) = (k : Int) + 1 := IntWalk.i64_in _ ⟨by omega, by omega⟩
      clear hq r1 r2 hb hkR
      go_upto_region 11 with fail
      by_cases h1 : k + 1 < n
      · have i1 : (k : Int) + 1 < (n : Int) := by omega
        have i2 : ¬ (q : Int) < m := by have := hlong h1; omega
        clear hlong
        go_quiet ((go_at_call 26; exact Calls.quiet_of (HVI.out _)))
        go_wp2_with fail
        go_roundw
        case rel => exact ⟨k + 1, by omega, by go_num, HBE.out _⟩
        case measure => simp [intOf]; omega
      · have i1 : ¬ (k : Int) + 1 < (n : Int) := by omega
        clear hlong
        go_quiet ((go_at_call 26; exact Calls.quiet_of (HVI.out _)))
        go_wp2_with fail
        go_roundw
        case rel => exact ⟨k + 1, by omega, by go_num, HBE.out _⟩
        case measure => simp [intOf]; omega
    · have kI : ¬ (k : Int) < (n : Int) := by omega
      have HBb := Lib.hid hb
      have hO4 := own_below HO3.out hb (Nat.le_refl _)
      have HB4 := Lib.hid (HB3.out.trans (hb.mono HB3.out.size))
      clear hb
      go_wp2_with fail
      refine (BatchRuns_any AV zs CV m _ (Reads.of_own hO4) (by omega) HCAP.out).mono ?_
      rintro e w5 ⟨AB, CB, rfl, oB, hb5⟩
      have HB5 := Lib.hid (HB4.out.trans (hb5.mono HB4.out.size))
      have i3 : (n : Int) ≤ ((btV zs m).length : Int) := by have := HCNT.out; rw [HN.out] at this; omega
      clear oB hb5
      go_wp2_with fail
      go_ret
      exact ⟨by simp, HB5.out⟩
end Go.Proofs.Ytecbagdljgnloaa
