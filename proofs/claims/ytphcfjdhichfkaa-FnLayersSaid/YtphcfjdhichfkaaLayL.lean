/- The walk of the law on layers. -/
import Derived.Test.YtphcfjdhichfkaaLayM
import Derived.Test.YtphcfjdhichfkaaDrawM
import Derived.Deep.DeepCutAuto
namespace Go.Proofs.Ytphcfjdhichfkaa
open Go.RowKit
set_option linter.unusedVariables false
set_option maxRecDepth 100000 in
set_option maxHeartbeats 6400000 in
theorem FnLayers_any (A : Option Addr) (bs : List Nat) (c : Nat) (w : World) (hr : Reads w w.heap.size 1 A bs.length (byts bs)) (hm : bs.length ≤ maxLen) (hbb : ∀ b ∈ bs, b ≤ 255) :
    Calls Try.prog 5 #[.slice A bs.length c] w fun e w' => e = .returned (.bool true) ∧ Below w.heap.size w w' := by
  have HVB := Lib.hid (fun w => vBig_any A bs.length c w hm)
  by_cases hbig : 65536 < bs.length
  case pos =>
    have HB := Lib.hid (show decide (65536 < bs.length) = true by simpa using hbig)
    clear hbig
    go_enter Try.func5, Try.ntmps5
    go_wp2_with (go_at_call 9; refine (HVB.out _).mono ?_; rintro e w' ⟨rfl, rfl⟩; rw [HB.out])
    go_ret
    exact ⟨rfl, Below.refl _ _⟩
  have hsm : bs.length ≤ 65536 := by omega
  have HB := Lib.hid (show decide (65536 < bs.length) = false by simpa using hbig)
  clear hbig
  have HD := Lib.hid (DrawNetworkLayers_any A bs c w hr hbb hsm)
  clear hr hbb hsm
  go_enter Try.func5, Try.ntmps5
  go_wp2_with (go_at_call 9; refine (HVB.out _).mono ?_; rintro e w' ⟨rfl, rfl⟩; rw [HB.out])
  refine HD.out.mono ?_
  rintro e w1 ⟨W, D, cs, d, rfl, oC, hW, hl1, hsmc, hb1⟩
  have hk1 := Blk.new w1 41 #[.int .i64 W, .slice D cs.length d]
  have oC1 := oC.alloc (.cells #[.int .i64 W, .slice D cs.length d] 41)
  have hB1 := alloc_ hb1 (.cells #[.int .i64 W, .slice D cs.length d] 41)
  obtain ⟨q0, q1⟩ := hk1.two
  have ql := hk1.lt
  clear hsmc hW oC hb1
  go_wp2_with fail
  generalize w1.alloc (.cells #[.int .i64 W, .slice D cs.length d] 41) = w2 at *
  generalize w1.heap.size = g at *
  refine (NetworkLayers_any W D cs d _ (Reads.of_own oC1) (by omega)).mono ?_
  rintro e w3 ⟨L1, k1, rfl, o1, b3⟩
  have hk3 := hk1.below b3 hk1.lt
  have oC3 := own_below oC1 b3 (Nat.le_refl _)
  have hB3 := hB1.trans (b3.mono hB1.size)
  have l3 := b3.size
  clear q0 q1 ql hk1 oC1 hB1 b3
  obtain ⟨q0, q1⟩ := hk3.two
  have ql := hk3.lt
  go_wp2_with fail
  refine (sNetworkLayers_any W D cs d _ (Reads.of_own oC3) (by omega)).mono ?_
  rintro e w4 ⟨L2, k2, rfl, o2, b4⟩
  have hk4 := hk3.below b4 hk3.lt
  have oC4 := own_below oC3 b4 (Nat.le_refl _)
  have o14 := own_below o1 b4 (Nat.le_refl _)
  have hB4 := hB3.trans (b4.mono hB3.size)
  clear q0 q1 ql hk3 oC3 hB3 b4 o1
  obtain ⟨q0, q1⟩ := hk4.two
  have ql := hk4.lt
  go_wp2_with fail
  refine (NetworkDepth_any W D cs d _ (Reads.of_own oC4) (by omega)).mono ?_
  rintro e w5 ⟨rfl, b5⟩
  have hk5 := hk4.below b5 hk4.lt
  have oC5 := own_below oC4 b5 (Nat.le_refl _)
  have o15 := own_below o14 b5 (Nat.le_refl _)
  have o25 := own_below o2 b5 (Nat.le_refl _)
  have hB5 := hB4.trans (b5.mono hB4.size)
  clear q0 q1 ql hk4 oC4 hB4 b5 o14 o2
  obtain ⟨q0, q1⟩ := hk5.two
  have ql := hk5.lt
  go_wp2_with fail
  refine (sNetworkDepth_any W D cs d _ (Reads.of_own oC5) (by omega)).mono ?_
  rintro e w6 ⟨rfl, b6⟩
  have hk6 := hk5.below b6 hk5.lt
  have oC6 := own_below oC5 b6 (Nat.le_refl _)
  have o16 := own_below o15 b6 (Nat.le_refl _)
  have o26 := own_below o25 b6 (Nat.le_refl _)
  have hB6 := hB5.trans (b6.mono hB5.size)
  clear q0 q1 ql hk5 oC5 hB5 b6 o15 o25
  obtain ⟨hN1, hN2, hN3, hN4⟩ := nl_facts W cs
  have HN4 := Lib.hid hN4
  have HN2 := Lib.hid hN2
  have HN3 := Lib.hid hN3
  clear hN2 hN3 hN4
  generalize nlV W cs = N at *
  generalize depthV W cs = dv at *
  generalize netOk W cs = ok at *
  have HV := Lib.hid (vInts_any L1 L2 N N k1 k2 w6 (Reads.of_own o16) (Reads.of_own o26) (by omega) (by omega))
  clear o26
  go_wp2_with fail
  refine HV.out.mono ?_
  rintro e w7 ⟨rfl, n7, rfl⟩
  simp only [decide_true]
  have hk7 : Blk (w6.drewN n7) g 41 #[.int .i64 W, .slice D cs.length d] := hk6
  have oC7 : (w6.drewN n7).ownsRow w.heap.size 37 2 (.slice D cs.length d) cs.length (cmps cs) := oC6
  have o17 := (show (w6.drewN n7).ownsRow _ 3 1 (.slice L1 N.length k1) N.length (ints N) from o16)
  have hB7 : Below w.heap.size w (w6.drewN n7) := hB6.trans (below_drewN (Below.refl _ _) n7)
  clear hk6 oC6 o16 hB6 HV
  generalize w6.drewN n7 = w7 at *
  go_wp2_with fail
  go_loopw [12, 13] (fun vm vi wr => ∃ (k : Nat) (m : Int), k ≤ N.length ∧ vi = .int .i64 (k : Nat) ∧ vm = .int .i64 m ∧ Hid (m = topL (N.take k)) ∧ Below w7.heap.size w7 wr) (fun _ vi _ => N.length - (intOf vi).toNat)
  case atStart => exact ⟨0, 0, by omega, rfl, rfl, Lib.hid rfl, Below.refl _ _⟩
  case round =>
    obtain ⟨k, m, hk, rfl, rfl, HM, hb⟩ := hrel
    by_cases hlt : k < N.length
    · have hkc : k < cs.length := by omega
      have kI : (k : Int) < N.length := by omega
      have hkr := hk7.below hb hk7.lt
      obtain ⟨q0, q1⟩ := hkr.two
      have ql := hkr.lt
      have oCr := own_below oC7 hb (Nat.le_refl _)
      obtain ⟨ad, rfl, had, hc0, hc1⟩ := (Reads.of_own oCr).cmp hkc
      have o1r := own_below o17 hb (Nat.le_refl _)
      obtain ⟨gN, cN, eN, -, -, -⟩ := own_some o1r (by omega)
      cases eN
      have HC := Lib.hid (fun (j : Nat) (hj : j < k) (hjc : j < cs.length) (hjn : j < N.length) => HN4.out j k hj hlt hkc)
      obtain ⟨⟨al, ah⟩, hck⟩ : ∃ p : Int × Int, cs[k] = p := ⟨_, rfl⟩
      rw [hck] at hc0 hc1
      simp only at hc0 hc1
      have HCK := Lib.hid hck
      clear hck
      obtain ⟨x, hx⟩ : ∃ x, N[k] = x := ⟨_, rfl⟩
      have oA := o1r.alloc (.cells #[.int .i64 al, .int .i64 ah] 37)
      have n0 := oA.cellAt k (by omega)
      rw [ints_get hlt, hx] at n0
      have HX0 := Lib.hid hx
      have hxb := HN2.out N[k] (List.getElem_mem hlt)
      rw [hx] at hxb
      have hkA := Blk.new wr 37 #[.int .i64 al, .int .i64 ah]
      have hgA := hkr.alloc (.cells #[.int .i64 al, .int .i64 ah] 37)
      have oCA := oCr.alloc (.cells #[.int .i64 al, .int .i64 ah] 37)
      have hbA := alloc_ hb (.cells #[.int .i64 al, .int .i64 ah] 37)
      clear hx hkr oCr o1r hk7 oC7 o17
      go_upto_if 76 with fail
      generalize wr.alloc (.cells #[.int .i64 al, .int .i64 ah] 37) = wA at *
      have hszA := hkA.lt
      generalize wr.heap.size = gA at *
      clear hc0 hc1 q0 q1 ql hb
      go_cut [12] (fun vm wc => vm = .int .i64 (max m x) ∧ wc = wA)
      case first =>
        by_cases hgt : m < x
        · have g1 : x > m := hgt
          have g2 : (max m x) = x := by omega
          have HG := Lib.hid g2
          clear g2
          go_wp2_with fail
          go_meet
          exact ⟨by rw [HG.out], rfl⟩
        · have g1 : ¬ x > m := hgt
          have HG := Lib.hid (show max m x = m by omega)
          go_wp2_with fail
          go_meet
          exact ⟨by rw [HG.out], rfl⟩
      case rest =>
        obtain ⟨rfl, rfl⟩ := hcut
        have HMX : Hid (max m x = topL (N.take (k + 1))) := Lib.hid (by rw [top_step N k hlt, HX0.out, HM.out])
        generalize max m x = m2 at *
        go_wp2_with fail
        go_loopw [15] (fun vj wr => ∃ j : Nat, j ≤ k ∧ vj = .int .i64 (j : Nat) ∧ Below wc.heap.size wc wr) (fun vj _ => k - (intOf vj).toNat)
        case atStart => exact ⟨0, by omega, rfl, Below.refl _ _⟩
        case round =>
          obtain ⟨j, hj, rfl, hbv⟩ := hrel
          by_cases hjk : j < k
          · have jI : (j : Int) < (k : Int) := by omega
            have hjc : j < cs.length := by omega
            have hjn : j < N.length := by omega
            have jN : (j : Int) < N.length := by omega
            obtain ⟨q0, q1⟩ := (hgA.below hbv hgA.lt).two
            have ql := (hgA.below hbv hgA.lt).lt
            have oCv := own_below oCA hbv (Nat.le_refl _)
            obtain ⟨ad2, e2, had2, hd0, hd1⟩ := (Reads.of_own oCv).cmp hjc
            cases e2
            have HLT0 := HC.out j hjk hjc hjn
            rw [HCK.out, List.getElem?_eq_getElem hjn, List.getElem?_eq_getElem hlt, HX0.out] at HLT0
            simp only [Option.getD_some] at HLT0
            obtain ⟨⟨bl, bh⟩, hcj⟩ : ∃ p : Int × Int, cs[j] = p := ⟨_, rfl⟩
            rw [hcj] at hd0 hd1 HLT0
            simp only at hd0 hd1 HLT0
            have ov := (own_below oA hbv (Nat.le_refl _)).alloc (.cells #[.int .i64 bl, .int .i64 bh] 37)
            have n1 := ov.cellAt j (by omega)
            have n2 := ov.cellAt k (by omega)
            rw [ints_get hjn] at n1
            rw [ints_get hlt, HX0.out] at n2
            have hyb := HN2.out N[j] (List.getElem_mem hjn)
            obtain ⟨y, hy⟩ : ∃ y, N[j] = y := ⟨_, rfl⟩
            rw [hy] at n1 HLT0 hyb
            have HLT := Lib.hid HLT0
            obtain ⟨a0, a1⟩ := ((hkA.below hbv hkA.lt).alloc (.cells #[.int .i64 bl, .int .i64 bh] 37)).two
            have hszA2 := (hkA.below hbv hkA.lt).lt
            obtain ⟨b0, b1⟩ := (Blk.new wr 37 #[.int .i64 bl, .int .i64 bh]).two
            have HBE : Hid (∀ n : Nat, Below wc.heap.size wc ((wr.alloc (.cells #[.int .i64 bl, .int .i64 bh] 37)).drewN n)) := Lib.hid (fun n => below_drewN (alloc_ hbv _) n)
            clear HLT0 hcj hy oCv ov hbv
            by_cases x0 : al = bl
            · have e0 : (al == bl) = true := by rw [beq_iff_eq]; exact x0
              have HX := Lib.hid x0
              clear x0
              have hlt2 : y < x := HLT.out (.inl HX.out)
              have i1 : ¬ (y ≥ x) := by omega
              have i2 : ¬ (x ≤ y) := by omega
              have i3 : decide (x ≤ y) = false := by simpa using hlt2
              go_upto_region 21 with fail
              go_quiet (fail)
              go_wp2_with fail
              go_roundw
              case rel => exact ⟨j + 1, by omega, by go_num, HBE.out _⟩
              case measure => simp [intOf]; omega
            · have e0 : (al == bl) = false := by rw [beq_eq_false_iff_ne]; exact x0
              clear x0
              by_cases x1 : al = bh
              · have e1 : (al == bh) = true := by rw [beq_iff_eq]; exact x1
                have HX := Lib.hid x1
                clear x1
                have hlt2 : y < x := HLT.out (.inr (.inl HX.out))
                have i1 : ¬ (y ≥ x) := by omega
                have i2 : ¬ (x ≤ y) := by omega
                have i3 : decide (x ≤ y) = false := by simpa using hlt2
                go_upto_region 21 with fail
                go_quiet (fail)
                go_wp2_with fail
                go_roundw
                case rel => exact ⟨j + 1, by omega, by go_num, HBE.out _⟩
                case measure => simp [intOf]; omega
              · have e1 : (al == bh) = false := by rw [beq_eq_false_iff_ne]; exact x1
                clear x1
                by_cases x2 : ah = bl
                · have e2 : (ah == bl) = true := by rw [beq_iff_eq]; exact x2
                  have HX := Lib.hid x2
                  clear x2
                  have hlt2 : y < x := HLT.out (.inr (.inr (.inl HX.out)))
                  have i1 : ¬ (y ≥ x) := by omega
                  have i2 : ¬ (x ≤ y) := by omega
                  have i3 : decide (x ≤ y) = false := by simpa using hlt2
                  go_upto_region 21 with fail
                  go_quiet (fail)
                  go_wp2_with fail
                  go_roundw
                  case rel => exact ⟨j + 1, by omega, by go_num, HBE.out _⟩
                  case measure => simp [intOf]; omega
                · have e2 : (ah == bl) = false := by rw [beq_eq_false_iff_ne]; exact x2
                  clear x2
                  by_cases x3 : ah = bh
                  · have e3 : (ah == bh) = true := by rw [beq_iff_eq]; exact x3
                    have HX := Lib.hid x3
                    clear x3
                    have hlt2 : y < x := HLT.out (.inr (.inr (.inr HX.out)))
                    have i1 : ¬ (y ≥ x) := by omega
                    have i2 : ¬ (x ≤ y) := by omega
                    have i3 : decide (x ≤ y) = false := by simpa using hlt2
                    go_upto_region 21 with fail
                    go_quiet (fail)
                    go_wp2_with fail
                    go_roundw
                    case rel => exact ⟨j + 1, by omega, by go_num, HBE.out _⟩
                    case measure => simp [intOf]; omega
                  · have e3 : (ah == bh) = false := by rw [beq_eq_false_iff_ne]; exact x3
                    clear x3
                    go_upto_region 21 with fail
                    go_quiet (fail)
                    go_wp2_with fail
                    go_roundw
                    case rel => exact ⟨j + 1, by omega, by go_num, HBE.out _⟩
                    case measure => simp [intOf]; omega
          · obtain rfl : j = k := by omega
            have jI : ¬ (j : Int) < (j : Int) := by omega
            go_wp2_with fail
            go_roundw
            case rel => exact ⟨j + 1, m2, by omega, by go_num, rfl, HMX, hbA.trans (hbv.mono hbA.size)⟩
            case measure => simp [intOf]; omega
    · obtain rfl : k = N.length := by omega
      have kI : ¬ (N.length : Int) < (N.length : Int) := by omega
      obtain rfl : m = dv := by rw [HM.out, List.take_of_length_le (Nat.le_refl _)]; exact HN3.out
      go_wp2_with fail
      go_ret
      exact ⟨rfl, hB7.trans (hb.mono hB7.size)⟩
end Go.Proofs.Ytphcfjdhichfkaa
