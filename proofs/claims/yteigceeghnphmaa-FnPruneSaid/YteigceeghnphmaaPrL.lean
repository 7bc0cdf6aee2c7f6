/- The walk of the law on pruning. -/
import Derived.Test.YteigceeghnphmaaNetM
import Derived.Test.YteigceeghnphmaaVN
import Derived.Test.YteigceeghnphmaaDrawM
import Derived.Test.YteigceeghnphmaaApN
import Derived.Test.YteigceeghnphmaaPruneS
import Derived.Test.YteigceeghnphmaaRedB
import Derived.Deep.DeepCutAuto
namespace Go.Proofs.Yteigceeghnphmaa
open Go.RowKit
set_option linter.unusedVariables false
set_option maxRecDepth 100000 in
set_option maxHeartbeats 6400000 in
theorem FnPrune_any (A : Option Addr) (bs : List Nat) (c : Nat) (w : World) (hr : Reads w w.heap.size 1 A bs.length (byts bs)) (hm : bs.length ≤ maxLen) (hbb : ∀ b ∈ bs, b ≤ 255) :
    Calls Try.prog 5 #[.slice A bs.length c] w fun e w' => e = .returned (.bool true) ∧ Below w.heap.size w w' := by
  have HVB := Lib.hid (fun w => vBig_any A bs.length c w hm)
  by_cases hbig : 65536 < bs.length
  case pos =>
    have HB := Lib.hid (show decide (65536 < bs.length) = true by simpa using hbig)
    clear hbig
    go_enter Try.func5, Try.ntmps5
    go_wp2_with (go_at_call 9; refine (HVB.out _).mono ?_; rintro e w' ⟨rfl, rfl⟩; rw [HB.out])
    go_ret
    exact ⟨rfl, Below.refl _ _⟩
  have hsm : bs.length ≤ 65536 := by omega
  have HB := Lib.hid (show decide (65536 < bs.length) = false by simpa using hbig)
  clear hbig
  have HD := Lib.hid (DrawPruneNetwork_any A bs c w hr hbb hsm)
  have HAT := Lib.hid (fun w' (h : Below w.heap.size w w') i (hi : i ≤ 1000) => vAt_any A bs c i w' ((hr.below h).more h.size) hbb hsm (by omega))
  have HLB := Lib.hid (fun i => atV_lt hbb i)
  clear hr hbb hsm
  have x1 : ∀ x : Int, (x != x) = false := by simp
  have x2 : ∀ x : Bool, (x != x) = false := by simp
  have x3 : ∀ x : Int, (x == x) = true := by simp
  obtain ⟨i0, hi, hz0, hz1, hz2⟩ := info_parts (show (Try.prog.info? 3).map (fun i => (i.zero, i.size, i.bytes)) = some (some (.int .i64 0), 1, 8) by kernel_rfl)
  go_enter Try.func5, Try.ntmps5
  go_wp2_with (go_at_call 9; refine (HVB.out _).mono ?_; rintro e w' ⟨rfl, rfl⟩; rw [HB.out])
  refine HD.out.mono ?_
  rintro e w1 ⟨W, D, cs, d, rfl, oC, hW, hl1, hsmc, hb1⟩
  clear hsmc
  have hN0 := Blk.new w1 26 #[.int .i64 W, .slice D cs.length d]
  have oC0 := oC.alloc (.cells #[.int .i64 W, .slice D cs.length d] 26)
  have hB0 := alloc_ hb1 (.cells #[.int .i64 W, .slice D cs.length d] 26)
  clear oC hb1
  obtain ⟨q0, q1⟩ := hN0.two
  have ql := hN0.lt
  go_wp2_with fail
  generalize w1.alloc (.cells #[.int .i64 W, .slice D cs.length d] 26) = w2 at *
  generalize w1.heap.size = gN at *
  refine (PruneNetwork_any W D cs d _ (Reads.of_own oC0) (by omega)).mono ?_
  rintro e w3 ⟨P, p, rfl, oPa, b3⟩
  clear q0 q1 ql
  have hN1 := hN0.below b3 hN0.lt
  have oC1 := own_below oC0 b3 (Nat.le_refl _)
  have hB1 := hB0.trans (b3.mono hB0.size)
  clear hN0 oC0 hB0
  have hl3 := pr_len W cs
  have hN2 := hN1.alloc (.cells #[.int .i64 (prW W cs), .slice P (prV W cs).length p] 26)
  have oC2 := oC1.alloc (.cells #[.int .i64 (prW W cs), .slice P (prV W cs).length p] 26)
  have hB2 := alloc_ hB1 (.cells #[.int .i64 (prW W cs), .slice P (prV W cs).length p] 26)
  clear hN1 oC1 hB1
  have oP2 := oPa.alloc (.cells #[.int .i64 (prW W cs), .slice P (prV W cs).length p] 26)
  have hP2 := Blk.new w3 26 #[.int .i64 (prW W cs), .slice P (prV W cs).length p]
  clear oPa
  obtain ⟨q0, q1⟩ := hN2.two
  have ql := hN2.lt
  go_wp2_with fail
  generalize w3.alloc (.cells #[.int .i64 (prW W cs), .slice P (prV W cs).length p] 26) = w4 at *
  generalize hgP : w3.heap.size = gP at *
  clear hgP
  refine (sPruneNetwork_any W D cs d _ (Reads.of_own oC2) (by omega)).mono ?_
  rintro e w5 ⟨Q, qq, rfl, oQa, b5⟩
  clear q0 q1 ql
  have hN3 := hN2.below b5 hN2.lt
  have oC3 := own_below oC2 b5 (Nat.le_refl _)
  have hB3 := hB2.trans (b5.mono hB2.size)
  have oP3 := own_below oP2 b5 (Nat.le_refl _)
  have hP3 := hP2.below b5 hP2.lt
  clear hN2 oC2 hB2 oP2 hP2
  have hN4 := hN3.alloc (.cells #[.int .i64 (prW W cs), .slice Q (prV W cs).length qq] 26)
  have oC4 := oC3.alloc (.cells #[.int .i64 (prW W cs), .slice Q (prV W cs).length qq] 26)
  have hB4 := alloc_ hB3 (.cells #[.int .i64 (prW W cs), .slice Q (prV W cs).length qq] 26)
  have oP4 := oP3.alloc (.cells #[.int .i64 (prW W cs), .slice Q (prV W cs).length qq] 26)
  have hP4 := hP3.alloc (.cells #[.int .i64 (prW W cs), .slice Q (prV W cs).length qq] 26)
  clear hN3 oC3 hB3 oP3 hP3
  have oQ4 := oQa.alloc (.cells #[.int .i64 (prW W cs), .slice Q (prV W cs).length qq] 26)
  have hQ4 := Blk.new w5 26 #[.int .i64 (prW W cs), .slice Q (prV W cs).length qq]
  clear oQa
  obtain ⟨q0, q1⟩ := hN4.two
  have ql := hN4.lt
  go_wp2_with fail
  generalize w5.alloc (.cells #[.int .i64 (prW W cs), .slice Q (prV W cs).length qq] 26) = w6 at *
  generalize hgQ : w5.heap.size = gQ at *
  clear hgQ
  refine (RedundantComparators_any W D cs d _ (Reads.of_own oC4) (by omega)).mono ?_
  rintro e w7 ⟨I, ii, rfl, oIa, b7⟩
  clear q0 q1 ql
  have hN5 := hN4.below b7 hN4.lt
  have oC5 := own_below oC4 b7 (Nat.le_refl _)
  have hB5 := hB4.trans (b7.mono hB4.size)
  have oP5 := own_below oP4 b7 (Nat.le_refl _)
  have hP5 := hP4.below b7 hP4.lt
  have oQ5 := own_below oQ4 b7 (Nat.le_refl _)
  have hQ5 := hQ4.below b7 hQ4.lt
  clear hN4 oC4 hB4 oP4 hP4 oQ4 hQ4
  have oI5 := oIa
  clear oIa
  obtain ⟨q0, q1⟩ := hN5.two
  have ql := hN5.lt
  go_wp2_with fail
  refine (sRedundantComparators_any W D cs d _ (Reads.of_own oC5) (by omega)).mono ?_
  rintro e w8 ⟨J, jj, rfl, oJa, b8⟩
  clear q0 q1 ql
  have hN6 := hN5.below b8 hN5.lt
  have oC6 := own_below oC5 b8 (Nat.le_refl _)
  have hB6 := hB5.trans (b8.mono hB5.size)
  have oP6 := own_below oP5 b8 (Nat.le_refl _)
  have hP6 := hP5.below b8 hP5.lt
  have oQ6 := own_below oQ5 b8 (Nat.le_refl _)
  have hQ6 := hQ5.below b8 hQ5.lt
  have oI6 := own_below oI5 b8 (Nat.le_refl _)
  clear hN5 oC5 hB5 oP5 hP5 oQ5 hQ5 oI5
  have oJ6 := oJa
  clear oJa
  have hrl := rc_len W cs
  have HPF := Lib.hid (fun h => prune_facts (W := W) (cs := cs) h)
  have HPW : Hid (chkOk W cs = false → prW W cs = 0) := Lib.hid (fun h => by simp [prW, h])
  have HCH : Hid (chkOk W cs = true → W ≤ 12 ∧ 1 ≤ W ∧ netOk W cs = true) := Lib.hid (fun h => by
    simp only [chkOk, Bool.and_eq_true, decide_eq_true_eq] at h
    exact ⟨h.2, (netOk_parts h.1).1, h.1⟩)
  generalize prV W cs = ps at *
  generalize prW W cs = V at *
  generalize rcV W cs = is at *
  obtain ⟨ok, hok⟩ : ∃ ok, chkOk W cs = ok := ⟨_, rfl⟩
  have HOK := Lib.hid hok
  rw [hok] at HPF HPW HCH ⊢
  clear hok
  obtain ⟨q0, q1⟩ := hP6.two
  have ql := hP6.lt
  obtain ⟨r0, r1⟩ := hQ6.two
  have rl := hQ6.lt
  go_upto_region 10 with (first
    | (go_at_call 13; refine (vNetwork_same V P Q ps p qq _ (Reads.of_own oP6) (Reads.of_own oQ6) (by omega)).mono ?_; rintro e w9 ⟨rfl, b9⟩; have hN7 := hN6.below b9 hN6.lt; have oC7 := own_below oC6 b9 (Nat.le_refl _); have hB7 := hB6.trans (b9.mono hB6.size); have oP7 := own_below oP6 b9 (Nat.le_refl _); have hP7 := hP6.below b9 hP6.lt; have oQ7 := own_below oQ6 b9 (Nat.le_refl _); have hQ7 := hQ6.below b9 hQ6.lt; have oI7 := own_below oI6 b9 (Nat.le_refl _); have oJ7 := own_below oJ6 b9 (Nat.le_refl _); clear hN6 oC6 hB6 oP6 hP6 oQ6 hQ6 oI6 oJ6)
    | (go_at_call 16; refine (vInts_any I J is is ii jj w9 (Reads.of_own oI7) (Reads.of_own oJ7) (by omega) (by omega)).mono ?_; rintro e w10 ⟨rfl, n10, rfl⟩; simp only [decide_true]))
  clear q0 q1 ql r0 r1 rl
  clear hQ7 oQ7 oJ7
  have hN8 := hN7.drewN n10
  have oC8 := own_dn oC7 n10
  have hB8 := below_drewN hB7 n10
  have oP8 := own_dn oP7 n10
  have hP8 := hP7.drewN n10
  have oI8 := own_dn oI7 n10
  clear hN7 oC7 hB7 oP7 hP7 oI7
  generalize w9.drewN n10 = w10 at *
  obtain ⟨q0, q1⟩ := hP8.two
  have ql := hP8.lt
  obtain ⟨r0, r1⟩ := hN8.two
  have rl := hN8.lt
  cases ok
  case false =>
    have hV0 := HPW.out rfl
    subst hV0
    go_wp2_with fail
    go_ret
    exact ⟨rfl, hB8⟩
  case true =>
    obtain ⟨f1, f2, f3, f4, f5⟩ := HPF.out rfl
    obtain ⟨g1, g2, g3⟩ := HCH.out rfl
    subst f2
    have HF1 := Lib.hid f1; have HF3 := Lib.hid f3; have HF4 := Lib.hid f4; have HF5 := Lib.hid f5; have HG3 := Lib.hid g3
    clear f1 f3 f4 f5 g3 HPF HPW HCH HOK
    obtain ⟨N, rfl⟩ := Int.eq_ofNat_of_zero_le (show 0 ≤ V by omega)
    have ho := made_at (w := w10) (base := w10.heap.size) (g := w10.heap.size) (size := 1) (e := 3) (Nat.le_refl _) rfl
    have hb0 := alloc_ (Below.refl w10.heap.size w10) (.cells #[] 3)
    clear q0 q1 ql r0 r1 rl
    have HHB := Lib.hid hB8
    go_wp2_with fail
    go_loopw [12, 13] (fun v vi wr => ∃ (k : Nat) (zs : List Int), k ≤ N ∧ vi = .int .i64 (k : Nat) ∧ Hid (zs.length = k) ∧ Hid (∀ x ∈ zs, 0 ≤ x ∧ x ≤ 8) ∧ wr.ownsRow w10.heap.size 3 1 v k (ints zs) ∧ Below w10.heap.size w10 wr) (fun _ vi _ => N - (intOf vi).toNat)
    case atStart => exact ⟨0, [], by omega, rfl, Lib.hid rfl, Lib.hid (fun x hx => by cases hx), ho, hb0⟩
    case round =>
      clear ho hb0
      obtain ⟨k, zs, hk, rfl, HZ, HZB, hO, hb⟩ := hrel
      have hkr := hN8.below hb hN8.lt
      obtain ⟨r0, r1⟩ := hkr.two
      have rl := hkr.lt
      clear hkr
      by_cases hlt : k < N
      · have kI : (k : Int) < (N : Int) := by omega
        have HE2 : Hid ((k : Int) + 2 = ((k + 2 : Nat) : Int)) := Lib.hid (by omega)
        have HA := Lib.hid (HAT.out wr (HHB.out.trans (hb.mono HHB.out.size)) (k + 2) (by omega))
        have hxb := HLB.out (k + 2)
        generalize atV bs (k + 2) = x at *
        obtain ⟨y, hy⟩ : ∃ y, (x : Int) % 9 = y := ⟨_, rfl⟩
        have hyb : 0 ≤ y ∧ y ≤ 8 := by omega
        go_wp2_with (first
          | (go_at_call 28; rw [HE2.out]; refine HA.out.mono ?_; rintro e w' ⟨rfl, rfl⟩)
          | (at_builtin; refine wpList_push _ rfl _ _ 33 rfl w10.heap.size 3 i0 _ 1 8 Try.underlying33 hi hz0 hz1 hz2 rfl (by decide) u12 _ _ rfl hO #[.int .i64 y] rfl rfl (by simp [Value.oneCell']) (by omega) (by unfold maxLen; omega) hb.size ?_; intro g1 k1 w12 hown1 hg1 hb3 hat3))
        rw [ints_snoc] at hown1
        have HZ2 : Hid ((zs ++ [y]).length = k + 1) := Lib.hid (by rw [List.length_append, HZ.out]; rfl)
        have HZB2 : Hid (∀ x ∈ zs ++ [y], 0 ≤ x ∧ x ≤ 8) := Lib.hid (fun x hx => by
          rcases List.mem_append.1 hx with h | h
          · exact HZB.out x h
          · rw [List.mem_singleton.1 h]; exact hyb)
        go_roundw
        case rel => exact ⟨k + 1, zs ++ [y], by omega, by go_num, HZ2, HZB2, hown1, hb.trans hb3⟩
        case measure => simp [intOf]; omega
      · obtain rfl : k = N := by omega
        have kI : ¬ (k : Int) < (k : Int) := by omega
        obtain ⟨zv, zc, rfl⟩ := own_slice hO
        have hzl := HZ.out
        have hvl : vList zs = true := by
          simp only [vList, Bool.and_eq_true, decide_eq_true_eq, List.all_eq_true]
          exact ⟨by omega, fun y hy => inB_iff.2 (by have := HZB.out y hy; omega)⟩
        have HVL := Lib.hid hvl
        have HPO : Hid (netOk (k : Int) ps = true) := Lib.hid (by have := HF1.out; simp only [chkOk, Bool.and_eq_true] at this; exact this.1)
        have HRR : Hid (netRun ps zs = netRun cs zs) := Lib.hid (HF5.out zs (by omega))
        have HNL : Hid ((netRun cs zs).length = k) := Lib.hid (by rw [netRun_len]; exact hzl)
        have HZL := Lib.hid hzl
        clear hvl hzl
        have hN0 := hN8.below hb hN8.lt
        have oC0 := own_below oC8 hb (Nat.le_refl _)
        have oP0 := own_below oP8 hb (Nat.le_refl _)
        have hP0 := hP8.below hb hP8.lt
        have oI0 := own_below oI8 hb (Nat.le_refl _)
        have hB0 := HHB.out.trans (hb.mono HHB.out.size)
        have oK0 := hO
        clear hN8 oC8 oP8 hP8 oI8 hO hb r0 r1 rl hB8
        obtain ⟨q0, q1⟩ := hP0.two
        have ql := hP0.lt
        obtain ⟨r0, r1⟩ := hN0.two
        have rl := hN0.lt
        go_wp2_with fail
        refine (ApplyNetwork_n k k D cs d zv zs zc _ HG3.out HVL.out HZL.out rfl (Reads.of_own oC0) (Reads.of_own oK0)).mono ?_
        rintro e w20 ⟨A1, a1, rfl, oA, b20⟩
        clear r0 r1 rl q0 q1 ql
        have hN1 := hN0.below b20 hN0.lt
        have oC1 := own_below oC0 b20 (Nat.le_refl _)
        have oP1 := own_below oP0 b20 (Nat.le_refl _)
        have hP1 := hP0.below b20 hP0.lt
        have oI1 := own_below oI0 b20 (Nat.le_refl _)
        have hB1 := hB0.trans (b20.mono hB0.size)
        have oK1 := own_below oK0 b20 (Nat.le_refl _)
        clear hN0 oC0 oP0 hP0 oI0 hB0 oK0
        have oA1 := oA
        clear oA
        obtain ⟨q0, q1⟩ := hP1.two
        have ql := hP1.lt
        obtain ⟨r0, r1⟩ := hN1.two
        have rl := hN1.lt
        go_wp2_with fail
        refine (ApplyNetwork_n k k P ps p zv zs zc _ HPO.out HVL.out HZL.out rfl (Reads.of_own oP1) (Reads.of_own oK1)).mono ?_
        rintro e w21 ⟨A2, a2, rfl, oE, b21⟩
        rw [HRR.out] at oE
        clear q0 q1 ql r0 r1 rl
        have hN2 := hN1.below b21 hN1.lt
        have oC2 := own_below oC1 b21 (Nat.le_refl _)
        have oP2 := own_below oP1 b21 (Nat.le_refl _)
        have hP2 := hP1.below b21 hP1.lt
        have oI2 := own_below oI1 b21 (Nat.le_refl _)
        have hB2 := hB1.trans (b21.mono hB1.size)
        have oK2 := own_below oK1 b21 (Nat.le_refl _)
        have oA2 := own_below oA1 b21 (Nat.le_refl _)
        clear hN1 oC1 oP1 hP1 oI1 hB1 oK1 oA1
        have oE2 := oE
        clear oE
        obtain ⟨q0, q1⟩ := hP2.two
        have ql := hP2.lt
        obtain ⟨r0, r1⟩ := hN2.two
        have rl := hN2.lt
        go_wp2_with fail
        refine (RedundantComparators_any k P ps p _ (Reads.of_own oP2) (by omega)).mono ?_
        rintro e w22 ⟨I3, i3, rfl, oF, b22⟩
        rw [HF3.out]
        clear q0 q1 ql r0 r1 rl
        have hN3 := hN2.below b22 hN2.lt
        have oC3 := own_below oC2 b22 (Nat.le_refl _)
        have oP3 := own_below oP2 b22 (Nat.le_refl _)
        have hP3 := hP2.below b22 hP2.lt
        have oI3 := own_below oI2 b22 (Nat.le_refl _)
        have hB3 := hB2.trans (b22.mono hB2.size)
        have oK3 := own_below oK2 b22 (Nat.le_refl _)
        have oA3 := own_below oA2 b22 (Nat.le_refl _)
        have oE3 := own_below oE2 b22 (Nat.le_refl _)
        clear hN2 oC2 oP2 hP2 oI2 hB2 oK2 oA2 oE2
        obtain ⟨q0, q1⟩ := hP3.two
        have ql := hP3.lt
        obtain ⟨r0, r1⟩ := hN3.two
        have rl := hN3.lt
        have hcnt : (((ps.length : Int) + is.length) == (cs.length : Int)) = true := by
          have := HF4.out
          rw [beq_iff_eq]; omega
        have HVI := Lib.hid (vInts_n A1 A2 (netRun cs zs) k a1 a2 w22 HNL.out (by omega) (Reads.of_own oA3) (Reads.of_own oE3))
        go_wp2_with (go_at_call 16; refine HVI.out.mono ?_; rintro e w23 ⟨rfl, n23, rfl⟩)
        go_ret
        exact ⟨rfl, below_drewN hB3 n23⟩
end Go.Proofs.Yteigceeghnphmaa
