/- The walk of the law on the standard form. -/
import Derived.Test.YteigceeghnphmaaStdM
import Derived.Test.YteigceeghnphmaaVN
import Derived.Test.YteigceeghnphmaaDrawM
import Derived.Test.YteigceeghnphmaaStdS
import Derived.Test.YteigceeghnphmaaNLayW
import Derived.Test.YteigceeghnphmaaFirst
import Derived.Deep.DeepCutAuto
namespace Go.Proofs.Yteigceeghnphmaa
open Go.RowKit
set_option linter.unusedVariables false
set_option maxRecDepth 100000 in
set_option maxHeartbeats 6400000 in
theorem FnStandard_any (A : Option Addr) (bs : List Nat) (c : Nat) (w : World) (hr : Reads w w.heap.size 1 A bs.length (byts bs)) (hm : bs.length ≤ maxLen) (hbb : ∀ b ∈ bs, b ≤ 255) :
    Calls Try.prog 3 #[.slice A bs.length c] w fun e w' => e = .returned (.bool true) ∧ Below w.heap.size w w' := by
  have HVB := Lib.hid (fun w => vBig_any A bs.length c w hm)
  by_cases hbig : 65536 < bs.length
  case pos =>
    have HB := Lib.hid (show decide (65536 < bs.length) = true by simpa using hbig)
    clear hbig
    go_enter Try.func3, Try.ntmps3
    go_wp2_with (go_at_call 9; refine (HVB.out _).mono ?_; rintro e w' ⟨rfl, rfl⟩; rw [HB.out])
    go_ret
    exact ⟨rfl, Below.refl _ _⟩
  have hsm : bs.length ≤ 65536 := by omega
  have HB := Lib.hid (show decide (65536 < bs.length) = false by simpa using hbig)
  clear hbig
  have HD := Lib.hid (DrawStandardForm_any A bs c w hr hbb hsm)
  clear hr hbb hsm
  have x1 : ∀ x : Int, (x != x) = false := by simp
  have x2 : ∀ x : Bool, (x != x) = false := by simp
  have x3 : ∀ x : Int, (x == x) = true := by simp
  have x4 : ∀ x : Bool, (x == x) = true := by simp
  go_enter Try.func3, Try.ntmps3
  go_wp2_with (go_at_call 9; refine (HVB.out _).mono ?_; rintro e w' ⟨rfl, rfl⟩; rw [HB.out])
  refine HD.out.mono ?_
  rintro e w1 ⟨W, D, cs, d, rfl, oC, hW, hl1, hsmc, hb1⟩
  clear hsmc
  have hN0 := Blk.new w1 26 #[.int .i64 W, .slice D cs.length d]
  have oC0 := oC.alloc (.cells #[.int .i64 W, .slice D cs.length d] 26)
  have hB0 := alloc_ hb1 (.cells #[.int .i64 W, .slice D cs.length d] 26)
  clear oC hb1
  obtain ⟨q0, q1⟩ := hN0.two
  have ql := hN0.lt
  go_wp2_with fail
  generalize w1.alloc (.cells #[.int .i64 W, .slice D cs.length d] 26) = w2 at *
  generalize w1.heap.size = gN at *
  refine (StandardForm_any W D cs d _ (Reads.of_own oC0) (by omega)).mono ?_
  rintro e w3 ⟨P, p, rfl, oPa, b3⟩
  clear q0 q1 ql
  have hN1 := hN0.below b3 hN0.lt
  have oC1 := own_below oC0 b3 (Nat.le_refl _)
  have hB1 := hB0.trans (b3.mono hB0.size)
  clear hN0 oC0 hB0
  have hl3 := sf_len W cs
  have hN2 := hN1.alloc (.cells #[.int .i64 (sfW W cs), .slice P (sfV W cs).length p] 26)
  have oC2 := oC1.alloc (.cells #[.int .i64 (sfW W cs), .slice P (sfV W cs).length p] 26)
  have hB2 := alloc_ hB1 (.cells #[.int .i64 (sfW W cs), .slice P (sfV W cs).length p] 26)
  clear hN1 oC1 hB1
  have oP2 := oPa.alloc (.cells #[.int .i64 (sfW W cs), .slice P (sfV W cs).length p] 26)
  have hP2 := Blk.new w3 26 #[.int .i64 (sfW W cs), .slice P (sfV W cs).length p]
  clear oPa
  obtain ⟨q0, q1⟩ := hN2.two
  have ql := hN2.lt
  go_wp2_with fail
  generalize w3.alloc (.cells #[.int .i64 (sfW W cs), .slice P (sfV W cs).length p] 26) = w4 at *
  generalize hgP : w3.heap.size = gP at *
  clear hgP
  refine (sStandardForm_any W D cs d _ (Reads.of_own oC2) (by omega)).mono ?_
  rintro e w5 ⟨Q, qq, rfl, oQa, b5⟩
  clear q0 q1 ql
  have hN3 := hN2.below b5 hN2.lt
  have oC3 := own_below oC2 b5 (Nat.le_refl _)
  have hB3 := hB2.trans (b5.mono hB2.size)
  have oP3 := own_below oP2 b5 (Nat.le_refl _)
  have hP3 := hP2.below b5 hP2.lt
  clear hN2 oC2 hB2 oP2 hP2
  have hN4 := hN3.alloc (.cells #[.int .i64 (sfW W cs), .slice Q (sfV W cs).length qq] 26)
  have oC4 := oC3.alloc (.cells #[.int .i64 (sfW W cs), .slice Q (sfV W cs).length qq] 26)
  have hB4 := alloc_ hB3 (.cells #[.int .i64 (sfW W cs), .slice Q (sfV W cs).length qq] 26)
  have oP4 := oP3.alloc (.cells #[.int .i64 (sfW W cs), .slice Q (sfV W cs).length qq] 26)
  have hP4 := hP3.alloc (.cells #[.int .i64 (sfW W cs), .slice Q (sfV W cs).length qq] 26)
  clear hN3 oC3 hB3 oP3 hP3
  have oQ4 := oQa.alloc (.cells #[.int .i64 (sfW W cs), .slice Q (sfV W cs).length qq] 26)
  have hQ4 := Blk.new w5 26 #[.int .i64 (sfW W cs), .slice Q (sfV W cs).length qq]
  clear oQa
  have HSF := Lib.hid (fun h => std_facts (W := W) (cs := cs) h)
  have HNW : Hid (netOk W cs = false → sfW W cs = 0) := Lib.hid (fun h => by simp [sfW, h])
  generalize hss : sfV W cs = ss at *
  generalize hvv : sfW W cs = V at *
  clear hss hvv
  obtain ⟨ok, hok⟩ : ∃ ok, netOk W cs = ok := ⟨_, rfl⟩
  have HOK := Lib.hid hok
  rw [hok] at HSF HNW ⊢
  clear hok
  obtain ⟨q0, q1⟩ := hP4.two
  have ql := hP4.lt
  obtain ⟨r0, r1⟩ := hQ4.two
  have rl := hQ4.lt
  go_wp2_with fail
  generalize w5.alloc (.cells #[.int .i64 V, .slice Q ss.length qq] 26) = w6 at *
  generalize hgQ : w5.heap.size = gQ at *
  clear hgQ
  refine (vNetwork_same V P Q ss p qq _ (Reads.of_own oP4) (Reads.of_own oQ4) (by omega)).mono ?_
  rintro e w7 ⟨rfl, b7⟩
  clear q0 q1 ql
  clear r0 r1 rl
  have hN5 := hN4.below b7 hN4.lt
  have oC5 := own_below oC4 b7 (Nat.le_refl _)
  have hB5 := hB4.trans (b7.mono hB4.size)
  have oP5 := own_below oP4 b7 (Nat.le_refl _)
  have hP5 := hP4.below b7 hP4.lt
  have oQ5 := own_below oQ4 b7 (Nat.le_refl _)
  have hQ5 := hQ4.below b7 hQ4.lt
  clear hN4 oC4 hB4 oP4 hP4 oQ4 hQ4
  clear oQ5 hQ5
  obtain ⟨q0, q1⟩ := hP5.two
  have ql := hP5.lt
  obtain ⟨r0, r1⟩ := hN5.two
  have rl := hN5.lt
  cases ok
  case false =>
    have hV0 := HNW.out rfl
    subst hV0
    go_wp2_with fail
    go_ret
    exact ⟨rfl, hB5⟩
  case true =>
    obtain ⟨f1, f2, f3, f4, f5, f6, f7⟩ := HSF.out rfl
    subst f2
    have HF1 := Lib.hid f1; have HF4 := Lib.hid f4; have HF6 := Lib.hid f6
    have HNL : Hid (nlV V ss = nlV V cs) := Lib.hid (by rw [nlV, nlV, if_pos f1, if_pos HOK.out, f5])
    have HCK : Hid (chkOk V ss = chkOk V cs) := Lib.hid (by rw [chkOk, chkOk, f1, HOK.out])
    have HFU : Hid (chkOk V cs = true → fuV V cs = -1 → fuV V ss = -1) := Lib.hid (fun h1 h2 => by
      rw [fuV, if_pos h1] at h2
      rw [fuV, if_pos (by rw [chkOk, f1]; rw [chkOk, HOK.out] at h1; exact h1)]
      exact f7 h2)
    have hnl := nl_len V cs
    clear f1 f3 f4 f5 f6 f7 HSF HNW
    go_wp2_with fail
    go_loopw [8] (fun vi wr => ∃ k n : Nat, k ≤ ss.length ∧ vi = .int .i64 (k : Nat) ∧ wr = w7.drewN n) (fun vi _ => ss.length - (intOf vi).toNat)
    case atStart => exact ⟨0, 0, by omega, rfl, rfl⟩
    case round =>
      obtain ⟨k, n, hk, rfl, rfl⟩ := hrel
      by_cases hlt : k < ss.length
      · have hkI : (k : Int) < ss.length := by omega
        obtain ⟨ad, eA, had, c0, c1⟩ := (Reads.of_own oP5).cmp hlt
        cases eA
        have hc := HF4.out ss[k] (List.getElem_mem hlt)
        generalize ss[k] = q at *
        obtain ⟨a, b⟩ := q
        simp only at c0 c1 hc
        have n1 : ¬ a ≥ b := by omega
        have n2 : ¬ b ≤ a := by omega
        go_wp2_with fail
        go_quiet (fail)
        go_wp2_with fail
        go_roundw
        case rel => exact ⟨k + 1, n + nq, by omega, by go_num, rfl⟩
        case measure => simp [intOf]; omega
      · have hkI : ¬ (k : Int) < ss.length := by omega
        clear q0 q1 ql r0 r1 rl
        have hN6 := hN5.drewN n
        have oC6 := own_dn oC5 n
        have hB6 := below_drewN hB5 n
        have oP6 := own_dn oP5 n
        have hP6 := hP5.drewN n
        clear hN5 oC5 hB5 oP5 hP5
        generalize w7.drewN n = w8 at *
        obtain ⟨q0, q1⟩ := hP6.two
        have ql := hP6.lt
        obtain ⟨r0, r1⟩ := hN6.two
        have rl := hN6.lt
        go_wp2_with fail
        refine (NetworkLayers_any V D cs d _ (Reads.of_own oC6) (by omega)).mono ?_
        rintro e w9 ⟨L1, k1, rfl, oL, b9⟩
        clear q0 q1 ql
        clear r0 r1 rl
        have hN7 := hN6.below b9 hN6.lt
        have oC7 := own_below oC6 b9 (Nat.le_refl _)
        have hB7 := hB6.trans (b9.mono hB6.size)
        have oP7 := own_below oP6 b9 (Nat.le_refl _)
        have hP7 := hP6.below b9 hP6.lt
        clear hN6 oC6 hB6 oP6 hP6
        have oL7 := oL
        clear oL
        obtain ⟨q0, q1⟩ := hP7.two
        have ql := hP7.lt
        obtain ⟨r0, r1⟩ := hN7.two
        have rl := hN7.lt
        have hNS := HNL.out
        go_wp2_with fail
        have HLY := Lib.hid (NetworkLayers_any V P ss p _ (Reads.of_own oP7) (by omega))
        rw [HNL.out, HF1.out] at HLY
        refine HLY.out.mono ?_
        rintro e w10 ⟨L2, k2, rfl, oM, b10⟩
        clear q0 q1 ql
        clear r0 r1 rl
        have hN8 := hN7.below b10 hN7.lt
        have oC8 := own_below oC7 b10 (Nat.le_refl _)
        have hB8 := hB7.trans (b10.mono hB7.size)
        have oP8 := own_below oP7 b10 (Nat.le_refl _)
        have hP8 := hP7.below b10 hP7.lt
        have oL8 := own_below oL7 b10 (Nat.le_refl _)
        clear hN7 oC7 hB7 oP7 hP7 oL7
        clear hNS
        have oM8 := oM
        clear oM
        generalize nlV V cs = LL at *
        obtain ⟨q0, q1⟩ := hP8.two
        have ql := hP8.lt
        obtain ⟨r0, r1⟩ := hN8.two
        have rl := hN8.lt
        go_wp2_with fail
        refine (FirstUnsorted_any V D cs d _ (Reads.of_own oC8) (by omega)).mono ?_
        rintro e w11 ⟨rfl, b11⟩
        clear q0 q1 ql
        clear r0 r1 rl
        have hN9 := hN8.below b11 hN8.lt
        have oC9 := own_below oC8 b11 (Nat.le_refl _)
        have hB9 := hB8.trans (b11.mono hB8.size)
        have oP9 := own_below oP8 b11 (Nat.le_refl _)
        have hP9 := hP8.below b11 hP8.lt
        have oL9 := own_below oL8 b11 (Nat.le_refl _)
        have oM9 := own_below oM8 b11 (Nat.le_refl _)
        clear hN8 oC8 hB8 oP8 hP8 oL8 oM8
        obtain ⟨q0, q1⟩ := hP9.two
        have ql := hP9.lt
        obtain ⟨r0, r1⟩ := hN9.two
        have rl := hN9.lt
        go_wp2_with fail
        refine (FirstUnsorted_any V P ss p _ (Reads.of_own oP9) (by omega)).mono ?_
        rintro e w12 ⟨rfl, b12⟩
        rw [HCK.out]
        clear q0 q1 ql
        clear r0 r1 rl
        have hN10 := hN9.below b12 hN9.lt
        have oC10 := own_below oC9 b12 (Nat.le_refl _)
        have hB10 := hB9.trans (b12.mono hB9.size)
        have oP10 := own_below oP9 b12 (Nat.le_refl _)
        have hP10 := hP9.below b12 hP9.lt
        have oL10 := own_below oL9 b12 (Nat.le_refl _)
        have oM10 := own_below oM9 b12 (Nat.le_refl _)
        clear hN9 oC9 hB9 oP9 hP9 oL9 oM9
        generalize fuV V cs = X at *
        generalize fuV V ss = Y at *
        generalize chkOk V cs = ck at *
        obtain ⟨q0, q1⟩ := hP10.two
        have ql := hP10.lt
        obtain ⟨r0, r1⟩ := hN10.two
        have rl := hN10.lt
        have HSS := Lib.hid (StandardForm_any V P ss p _ (Reads.of_own oP10) (by omega))
        rw [HF6.out, show sfW V ss = V by rw [sfW, if_pos HF1.out], HF1.out] at HSS
        go_wp2_with fail
        refine HSS.out.mono ?_
        rintro e w13 ⟨R, rr, rfl, oRa, b13⟩
        clear HSS
        clear q0 q1 ql
        clear r0 r1 rl
        have hN11 := hN10.below b13 hN10.lt
        have oC11 := own_below oC10 b13 (Nat.le_refl _)
        have hB11 := hB10.trans (b13.mono hB10.size)
        have oP11 := own_below oP10 b13 (Nat.le_refl _)
        have hP11 := hP10.below b13 hP10.lt
        have oL11 := own_below oL10 b13 (Nat.le_refl _)
        have oM11 := own_below oM10 b13 (Nat.le_refl _)
        clear hN10 oC10 hB10 oP10 hP10 oL10 oM10
        have hN12 := hN11.alloc (.cells #[.int .i64 V, .slice R ss.length rr] 26)
        have oC12 := oC11.alloc (.cells #[.int .i64 V, .slice R ss.length rr] 26)
        have hB12 := alloc_ hB11 (.cells #[.int .i64 V, .slice R ss.length rr] 26)
        have oP12 := oP11.alloc (.cells #[.int .i64 V, .slice R ss.length rr] 26)
        have hP12 := hP11.alloc (.cells #[.int .i64 V, .slice R ss.length rr] 26)
        have oL12 := oL11.alloc (.cells #[.int .i64 V, .slice R ss.length rr] 26)
        have oM12 := oM11.alloc (.cells #[.int .i64 V, .slice R ss.length rr] 26)
        clear hN11 oC11 hB11 oP11 hP11 oL11 oM11
        have oR12 := oRa.alloc (.cells #[.int .i64 V, .slice R ss.length rr] 26)
        have hR12 := Blk.new w13 26 #[.int .i64 V, .slice R ss.length rr]
        clear oRa
        obtain ⟨q0, q1⟩ := hP12.two
        have ql := hP12.lt
        obtain ⟨r0, r1⟩ := hR12.two
        have rl := hR12.lt
        cases ck
        case false =>
          go_wp2_with fail
          refine (vInts_n L1 L2 LL LL.length k1 k2 _ rfl (by omega) (Reads.of_own oL12) (Reads.of_own oM12)).mono ?_
          rintro e w15 ⟨rfl, n15, rfl⟩
          clear q0 q1 ql r0 r1 rl
          have hN13 := hN12.drewN n15
          have oC13 := own_dn oC12 n15
          have hB13 := below_drewN hB12 n15
          have oP13 := own_dn oP12 n15
          have hP13 := hP12.drewN n15
          have oL13 := own_dn oL12 n15
          have oM13 := own_dn oM12 n15
          have oR13 := own_dn oR12 n15
          have hR13 := hR12.drewN n15
          clear hN12 oC12 hB12 oP12 hP12 oL12 oM12 oR12 hR12
          generalize (w13.alloc (.cells #[.int .i64 V, .slice R ss.length rr] 26)).drewN n15 = w16 at *
          obtain ⟨q0, q1⟩ := hP13.two
          have ql := hP13.lt
          obtain ⟨r0, r1⟩ := hR13.two
          have rl := hR13.lt
          go_wp2_with fail
          refine (vNetwork_same V R P ss rr p _ (Reads.of_own oR13) (Reads.of_own oP13) (by omega)).mono ?_
          rintro e w17 ⟨rfl, b17⟩
          go_wp2_with fail
          go_ret
          exact ⟨rfl, hB13.trans (b17.mono hB13.size)⟩
        case true =>
          by_cases hX : X = -1
          · have hY := HFU.out rfl hX
            subst hX
            subst hY
            go_wp2_with fail
            refine (vInts_n L1 L2 LL LL.length k1 k2 _ rfl (by omega) (Reads.of_own oL12) (Reads.of_own oM12)).mono ?_
            rintro e w15 ⟨rfl, n15, rfl⟩
            clear q0 q1 ql r0 r1 rl
            have hN13 := hN12.drewN n15
            have oC13 := own_dn oC12 n15
            have hB13 := below_drewN hB12 n15
            have oP13 := own_dn oP12 n15
            have hP13 := hP12.drewN n15
            have oL13 := own_dn oL12 n15
            have oM13 := own_dn oM12 n15
            have oR13 := own_dn oR12 n15
            have hR13 := hR12.drewN n15
            clear hN12 oC12 hB12 oP12 hP12 oL12 oM12 oR12 hR12
            generalize (w13.alloc (.cells #[.int .i64 V, .slice R ss.length rr] 26)).drewN n15 = w16 at *
            obtain ⟨q0, q1⟩ := hP13.two
            have ql := hP13.lt
            obtain ⟨r0, r1⟩ := hR13.two
            have rl := hR13.lt
            go_wp2_with fail
            refine (vNetwork_same V R P ss rr p _ (Reads.of_own oR13) (Reads.of_own oP13) (by omega)).mono ?_
            rintro e w17 ⟨rfl, b17⟩
            go_wp2_with fail
            go_ret
            exact ⟨rfl, hB13.trans (b17.mono hB13.size)⟩
          · have hX2 : (X != -1) = true := by simpa using hX
            have hX3 : (X == -1) = false := by simpa using hX
            go_wp2_with fail
            refine (vInts_n L1 L2 LL LL.length k1 k2 _ rfl (by omega) (Reads.of_own oL12) (Reads.of_own oM12)).mono ?_
            rintro e w15 ⟨rfl, n15, rfl⟩
            clear q0 q1 ql r0 r1 rl
            have hN13 := hN12.drewN n15
            have oC13 := own_dn oC12 n15
            have hB13 := below_drewN hB12 n15
            have oP13 := own_dn oP12 n15
            have hP13 := hP12.drewN n15
            have oL13 := own_dn oL12 n15
            have oM13 := own_dn oM12 n15
            have oR13 := own_dn oR12 n15
            have hR13 := hR12.drewN n15
            clear hN12 oC12 hB12 oP12 hP12 oL12 oM12 oR12 hR12
            generalize (w13.alloc (.cells #[.int .i64 V, .slice R ss.length rr] 26)).drewN n15 = w16 at *
            obtain ⟨q0, q1⟩ := hP13.two
            have ql := hP13.lt
            obtain ⟨r0, r1⟩ := hR13.two
            have rl := hR13.lt
            go_wp2_with fail
            refine (vNetwork_same V R P ss rr p _ (Reads.of_own oR13) (Reads.of_own oP13) (by omega)).mono ?_
            rintro e w17 ⟨rfl, b17⟩
            go_wp2_with fail
            go_ret
            exact ⟨rfl, hB13.trans (b17.mono hB13.size)⟩
end Go.Proofs.Yteigceeghnphmaa
