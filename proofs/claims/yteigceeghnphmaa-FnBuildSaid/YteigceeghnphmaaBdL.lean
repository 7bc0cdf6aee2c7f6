/- The walk of the law on the builders. -/
import Derived.Test.YteigceeghnphmaaBuildM
import Derived.Test.YteigceeghnphmaaNtL
import Derived.Test.YteigceeghnphmaaDrawB2
namespace Go.Proofs.Yteigceeghnphmaa
open Go.RowKit
set_option linter.unusedVariables false
theorem ck_facts {z : Int} (h : ckOk z = true) : ∃ N : Nat, (z = N ∧ 1 ≤ N ∧ N ≤ 16) ∧ z * (z - 1) = ((N * (N - 1) : Nat) : Int) ∧ 4 ≤ (ckV z).length ∧ (ints (ckV z))[0]? = some (.int .i64 (((N * (N - 1) : Nat) : Int) / 2)) ∧ (ints (ckV z))[2]? = some (.int .i64 ((bnV 3 z).length : Nat)) ∧ ((bnV 3 z).length : Int) ≤ ((N * (N - 1) : Nat) : Int) / 2 := by
  obtain ⟨z1, z2⟩ := inB_iff.1 (show inB z 1 16 = true from h)
  obtain ⟨N, rfl⟩ := Int.eq_ofNat_of_zero_le (show 0 ≤ z by omega)
  have hv : ckV (N : Int) = ckT N 4 := by rw [ckV, if_pos h]
  obtain ⟨s1, s2⟩ := size13 ⟨N, by omega⟩ (by show 1 ≤ N; omega)
  simp only [] at s1 s2
  have hm : (N : Int) * ((N : Int) - 1) = ((N * (N - 1) : Nat) : Int) := by
    obtain ⟨q, rfl⟩ : ∃ q, N = q + 1 := ⟨N - 1, by omega⟩
    rw [Nat.add_sub_cancel, Int.natCast_mul]
    congr 1
    omega
  have s2' : (((bnV 1 (N : Int)).length : Nat) : Int) = ((N * (N - 1) : Nat) : Int) / 2 := by rw [s2]; omega
  refine ⟨N, ⟨rfl, by omega, by omega⟩, hm, by rw [hv]; simp [ckT], ?_, ?_, by omega⟩
  · rw [hv, ← s2']; rfl
  · rw [hv]; rfl
set_option maxRecDepth 100000 in
set_option maxHeartbeats 6400000 in
theorem FnBuild_any (A : Option Addr) (bs : List Nat) (c : Nat) (w : World) (hr : Reads w w.heap.size 1 A bs.length (byts bs)) (hm : bs.length ≤ maxLen) (hbb : ∀ b ∈ bs, b ≤ 255) :
    Calls Try.prog 7 #[.slice A bs.length c] w fun e w' => e = .returned (.bool true) ∧ Below w.heap.size w w' := by
  have HVB := Lib.hid (fun w => vBig_any A bs.length c w hm)
  by_cases hbig : 65536 < bs.length
  case pos =>
    have HB := Lib.hid (show decide (65536 < bs.length) = true by simpa using hbig)
    clear hbig
    go_enter Try.func7, Try.ntmps7
    go_wp2_with (go_at_call 9; refine (HVB.out _).mono ?_; rintro e w' ⟨rfl, rfl⟩; rw [HB.out])
    go_ret
    exact ⟨rfl, Below.refl _ _⟩
  have hsm : bs.length ≤ 65536 := by omega
  have HB := Lib.hid (show decide (65536 < bs.length) = false by simpa using hbig)
  clear hbig
  have HD := Lib.hid (DrawBuildNetwork_any A bs c w hr hbb hsm)
  have HDK := Lib.hid (fun w' (h : Below w.heap.size w w') => DrawCompareKinds_any A bs c w' ((hr.below h).more h.size) hbb hsm)
  have HAT := Lib.hid (fun w' (h : Below w.heap.size w w') i (hi : i ≤ 1000) => vAt_any A bs c i w' ((hr.below h).more h.size) hbb hsm (by omega))
  have HLB := Lib.hid (fun i => atV_lt hbb i)
  clear hr hbb hsm
  have x1 : ∀ x : Int, (x != x) = false := by simp
  have x2 : ∀ x : Bool, (x != x) = false := by simp
  have x3 : ∀ x : Int, (x == x) = true := by simp
  obtain ⟨i0, hi, hz0, hz1, hz2⟩ := info_parts (show (Try.prog.info? 3).map (fun i => (i.zero, i.size, i.bytes)) = some (some (.int .i64 0), 1, 8) by kernel_rfl)
  go_enter Try.func7, Try.ntmps7
  go_wp2_with (go_at_call 9; refine (HVB.out _).mono ?_; rintro e w' ⟨rfl, rfl⟩; rw [HB.out])
  refine HD.out.mono ?_
  rintro e w1 ⟨kd, W, rfl, hb1⟩
  go_wp2_with fail
  refine (BuildNetwork_any kd W _).mono ?_
  rintro e w2 ⟨P, p, rfl, oPa, b2⟩
  have hB0 := hb1.trans (b2.mono hb1.size)
  have hBs := hb1.size
  have hB1 := alloc_ hB0 (.cells #[.int .i64 (bnW kd W), .slice P (bnV kd W).length p] 26)
  clear hB0
  have oP1 := oPa.alloc (.cells #[.int .i64 (bnW kd W), .slice P (bnV kd W).length p] 26)
  have hP1 := Blk.new w2 26 #[.int .i64 (bnW kd W), .slice P (bnV kd W).length p]
  clear oPa
  have hbl := bn_len kd W
  have HBG := Lib.hid (fun h => bn_good (k := kd) (W := W) h)
  have HBW : Hid (bnOk kd W = true → bnW kd W = W) := Lib.hid (fun h => (bn_on h).2)
  have HBF : Hid (bnOk kd W = false → bnW kd W = 0) := Lib.hid (fun h => (bn_off h).2)
  generalize hps : bnV kd W = ps at *
  generalize hvv : bnW kd W = V at *
  obtain ⟨ok, hok⟩ : ∃ ok, bnOk kd W = ok := ⟨_, rfl⟩
  have HPS := Lib.hid hps; have HVV := Lib.hid hvv; have HOK := Lib.hid hok
  rw [hok] at HBG HBW HBF ⊢
  clear hps hvv hok
  go_wp2_with fail
  generalize w2.alloc (.cells #[.int .i64 V, .slice P ps.length p] 26) = w3 at *
  generalize hgP : w2.heap.size = gP at *
  clear hgP
  refine (sBuildNetwork_any kd W _).mono ?_
  rintro e w4 ⟨Q, qq, rfl, oQa, b4⟩
  rw [HPS.out] at oQa
  rw [HPS.out, HVV.out, HOK.out]
  have hB2 := hB1.trans (b4.mono hB1.size)
  have oP2 := own_below oP1 b4 (Nat.le_refl _)
  have hP2 := hP1.below b4 hP1.lt
  clear hB1 oP1 hP1
  have hB3 := alloc_ hB2 (.cells #[.int .i64 V, .slice Q ps.length qq] 26)
  have oP3 := oP2.alloc (.cells #[.int .i64 V, .slice Q ps.length qq] 26)
  have hP3 := hP2.alloc (.cells #[.int .i64 V, .slice Q ps.length qq] 26)
  clear hB2 oP2 hP2
  have oQ3 := oQa.alloc (.cells #[.int .i64 V, .slice Q ps.length qq] 26)
  have hQ3 := Blk.new w4 26 #[.int .i64 V, .slice Q ps.length qq]
  clear oQa
  go_wp2_with fail
  generalize w4.alloc (.cells #[.int .i64 V, .slice Q ps.length qq] 26) = w5 at *
  generalize hgQ : w4.heap.size = gQ at *
  clear hgQ
  refine (HDK.out w5 hB3).mono ?_
  rintro e w6 ⟨z, rfl, b6⟩
  have hB4 := hB3.trans (b6.mono hB3.size)
  have oP4 := own_below oP3 b6 (Nat.le_refl _)
  have hP4 := hP3.below b6 hP3.lt
  have oQ4 := own_below oQ3 b6 (Nat.le_refl _)
  have hQ4 := hQ3.below b6 hQ3.lt
  clear hB3 oP3 hP3 oQ3 hQ3
  go_wp2_with fail
  refine (CompareKinds_any z _).mono ?_
  rintro e w7 ⟨K, kk, rfl, oKa, b7⟩
  have hB5 := hB4.trans (b7.mono hB4.size)
  have oP5 := own_below oP4 b7 (Nat.le_refl _)
  have hP5 := hP4.below b7 hP4.lt
  have oQ5 := own_below oQ4 b7 (Nat.le_refl _)
  have hQ5 := hQ4.below b7 hQ4.lt
  clear hB4 oP4 hP4 oQ4 hQ4
  have oK5 := oKa
  clear oKa
  go_wp2_with fail
  refine (sCompareKinds_any z _).mono ?_
  rintro e w8 ⟨J, jj, rfl, oJa, b8⟩
  have hB6 := hB5.trans (b8.mono hB5.size)
  have oP6 := own_below oP5 b8 (Nat.le_refl _)
  have hP6 := hP5.below b8 hP5.lt
  have oQ6 := own_below oQ5 b8 (Nat.le_refl _)
  have hQ6 := hQ5.below b8 hQ5.lt
  have oK6 := own_below oK5 b8 (Nat.le_refl _)
  clear hB5 oP5 hP5 oQ5 hQ5 oK5
  have oJ6 := oJa
  clear oJa
  have hkl := ck_len z
  have HCK := Lib.hid (fun h => ck_facts (z := z) h)
  generalize ckV z = ks at *
  obtain ⟨ck, hck⟩ : ∃ ck, ckOk z = ck := ⟨_, rfl⟩
  rw [hck] at HCK ⊢
  clear hck
  obtain ⟨q0, q1⟩ := hP6.two
  have ql := hP6.lt
  obtain ⟨r0, r1⟩ := hQ6.two
  have rl := hQ6.lt
  go_upto_region 9 with fail
  go_cut [70] (fun v wc => v = .bool false ∧ Below w8.heap.size w8 wc)
  case first =>
    go_wp2_with fail
    refine (vNetwork_same V P Q ps p qq _ (Reads.of_own oP6) (Reads.of_own oQ6) (by omega)).mono ?_
    rintro e w9 ⟨rfl, b9⟩
    have oK9 := own_below oK6 b9 (Nat.le_refl _)
    have oJ9 := own_below oJ6 b9 (Nat.le_refl _)
    go_wp2_with fail
    refine (vInts_n K J ks ks.length kk jj w9 rfl (by omega) (Reads.of_own oK9) (Reads.of_own oJ9)).mono ?_
    rintro e w10 ⟨rfl, n10, rfl⟩
    go_wp2_with fail
    go_meet
    exact ⟨rfl, below_drewN b9 n10⟩
  case rest =>
    obtain ⟨rfl, b11⟩ := hcut
    clear q0 q1 ql r0 r1 rl oQ6 hQ6 oJ6
    have hB7 := hB6.trans (b11.mono hB6.size)
    have oP7 := own_below oP6 b11 (Nat.le_refl _)
    have hP7 := hP6.below b11 hP6.lt
    have oK7 := own_below oK6 b11 (Nat.le_refl _)
    clear hB6 oP6 hP6 oK6
    go_upto_region 11 with fail
    go_cut [91] (fun v wd => v = .bool false ∧ ∃ n, wd = wc.drewN n)
    case first =>
      cases ck
      case false =>
        go_quiet (fail)
        go_wp2_with fail
        go_meet
        exact ⟨rfl, _, rfl⟩
      case true =>
        obtain ⟨N, hN1, hN2, hkl4, k0, k2, hle⟩ := HCK.out rfl
        obtain ⟨gK, cK, eK, -, -, -⟩ := own_some oK7 (by omega)
        cases eK
        have c0 := oK7.cellAt 0 (by omega)
        have c2 := oK7.cellAt 2 (by omega)
        rw [k0] at c0
        rw [k2] at c2
        have hm : z * (z - 1) = ((N * (N - 1) : Nat) : Int) := hN2
        have hmb : N * (N - 1) ≤ 240 := by
          have : N * (N - 1) ≤ 16 * 15 := Nat.mul_le_mul (by omega) (by omega)
          omega
        have hzb : 1 ≤ z ∧ z ≤ 16 := by omega
        have l0 : (0 : Int) < ks.length := by omega
        have l2 : (2 : Int) < ks.length := by omega
        generalize N * (N - 1) = M at *
        generalize ((bnV 3 z).length : Int) = s2 at *
        have hgt : ¬ s2 > (M : Int) / 2 := by omega
        have hlt : ¬ (M : Int) / 2 < s2 := by omega
        have HHN := Lib.hid hN1
        clear hN1 hN2 hkl4 k0 k2
        go_quiet (fail)
        go_wp2_with fail
        go_meet
        exact ⟨rfl, _, rfl⟩
    case rest =>
      obtain ⟨rfl, n12, rfl⟩ := hcut
      clear HCK oK7
      have hB8 := below_drewN hB7 n12
      have oP8 := own_dn oP7 n12
      have hP8 := hP7.drewN n12
      clear hB7 oP7 hP7
      generalize wc.drewN n12 = w13 at *
      obtain ⟨q0, q1⟩ := hP8.two
      have ql := hP8.lt
      cases ok
      case false =>
        have h0 := HBF.out rfl
        subst h0
        go_wp2_with fail
        go_ret
        exact ⟨rfl, hB8⟩
      case true =>
        have hvw := HBW.out rfl
        subst hvw
        obtain ⟨N, rfl, hN1, hN2, g3, g4⟩ := HBG.out rfl
        have HG3 := Lib.hid g3; have HG4 := Lib.hid g4
        have HFU : Hid (chkOk (N : Int) ps = true → fuV (N : Int) ps = -1) := Lib.hid (fun h => by
          rw [fuV, if_pos h]; exact sorts_fu g4)
        clear g3 g4 HBG HBW HBF HPS HVV HOK
        have ho := made_at (w := w13) (base := w13.heap.size) (g := w13.heap.size) (size := 1) (e := 3) (Nat.le_refl _) rfl
        have hb0 := alloc_ (Below.refl w13.heap.size w13) (.cells #[] 3)
        clear q0 q1 ql
        have HHB := Lib.hid hB8
        go_wp2_with fail
        go_loopw [14, 15] (fun v vi wr => ∃ (k : Nat) (zs : List Int), k ≤ N ∧ vi = .int .i64 (k : Nat) ∧ Hid (zs.length = k) ∧ Hid (∀ x ∈ zs, 0 ≤ x ∧ x ≤ 49) ∧ wr.ownsRow w13.heap.size 3 1 v k (ints zs) ∧ Below w13.heap.size w13 wr) (fun _ vi _ => N - (intOf vi).toNat)
        case atStart => exact ⟨0, [], by omega, rfl, Lib.hid rfl, Lib.hid (fun x hx => by cases hx), ho, hb0⟩
        case round =>
          clear ho hb0
          obtain ⟨k, zs, hk, rfl, HZ, HZB, hO, hb⟩ := hrel
          by_cases hlt : k < N
          · have kI : (k : Int) < (N : Int) := by omega
            have HE2 : Hid ((k : Int) + 2 = ((k + 2 : Nat) : Int)) := Lib.hid (by omega)
            have HA := Lib.hid (HAT.out wr (HHB.out.trans (hb.mono HHB.out.size)) (k + 2) (by omega))
            have hxb := HLB.out (k + 2)
            generalize atV bs (k + 2) = x at *
            obtain ⟨y, hy⟩ : ∃ y, (x : Int) % 50 = y := ⟨_, rfl⟩
            have hyb : 0 ≤ y ∧ y ≤ 49 := by omega
            go_wp2_with (first
              | (go_at_call 28; rw [HE2.out]; refine HA.out.mono ?_; rintro e w' ⟨rfl, rfl⟩)
              | (at_builtin; refine wpList_push _ rfl _ _ 33 rfl w13.heap.size 3 i0 _ 1 8 Try.underlying33 hi hz0 hz1 hz2 rfl (by decide) u14 _ _ rfl hO #[.int .i64 y] rfl rfl (by simp [Value.oneCell']) (by omega) (by unfold maxLen; omega) hb.size ?_; intro g1 k1 w14 hown1 hg1 hb3 hat3))
            rw [ints_snoc] at hown1
            have HZ2 : Hid ((zs ++ [y]).length = k + 1) := Lib.hid (by rw [List.length_append, HZ.out]; rfl)
            have HZB2 : Hid (∀ x ∈ zs ++ [y], 0 ≤ x ∧ x ≤ 49) := Lib.hid (fun x hx => by
              rcases List.mem_append.1 hx with h | h
              · exact HZB.out x h
              · rw [List.mem_singleton.1 h]; exact hyb)
            go_roundw
            case rel => exact ⟨k + 1, zs ++ [y], by omega, by go_num, HZ2, HZB2, hown1, hb.trans hb3⟩
            case measure => simp [intOf]; omega
          · obtain rfl : k = N := by omega
            have kI : ¬ (k : Int) < (k : Int) := by omega
            obtain ⟨zv, zc, rfl⟩ := own_slice hO
            have HVL : Hid (vList zs = true) := Lib.hid (by
              simp only [vList, Bool.and_eq_true, decide_eq_true_eq, List.all_eq_true]
              exact ⟨by rw [HZ.out]; omega, fun y hy => inB_iff.2 (by have := HZB.out y hy; omega)⟩)
            have HSS : Hid (netRun ps zs = srt zs) := Lib.hid (HG4.out zs HZ.out)
            have hPr := hP8.below hb hP8.lt
            have oPr := own_below oP8 hb (Nat.le_refl _)
            have hBr := HHB.out.trans (hb.mono HHB.out.size)
            clear hP8 oP8 hB8 hb
            obtain ⟨q0, q1⟩ := hPr.two
            have ql := hPr.lt
            go_wp2_with fail
            refine (ApplyNetwork_n k k P ps p zv zs zc _ HG3.out HVL.out HZ.out rfl (Reads.of_own oPr) (Reads.of_own hO)).mono ?_
            rintro e w20 ⟨A3, a3, rfl, oS, b20⟩
            rw [HSS.out] at oS
            have hO20 := own_below hO b20 (Nat.le_refl _)
            have oP20 := own_below oPr b20 (Nat.le_refl _)
            have hP20 := hPr.below b20 hPr.lt
            have hB20 := hBr.trans (b20.mono hBr.size)
            clear q0 q1 ql hPr oPr hO hBr
            obtain ⟨q0, q1⟩ := hP20.two
            have ql := hP20.lt
            go_wp2_with fail
            refine (FirstUnsorted_any k P ps p _ (Reads.of_own oP20) (by omega)).mono ?_
            rintro e w21 ⟨rfl, b21⟩
            have hO21 := own_below hO20 b21 (Nat.le_refl _)
            have oS21 := own_below oS b21 (Nat.le_refl _)
            have hB21 := hB20.trans (b21.mono hB20.size)
            obtain ⟨X, hX⟩ : ∃ X, fuV (k : Int) ps = X := ⟨_, rfl⟩
            obtain ⟨cx, hcx⟩ : ∃ cx, chkOk (k : Int) ps = cx := ⟨_, rfl⟩
            rw [hX, hcx] at HFU ⊢
            clear hX hcx q0 q1 ql
            have HVO := Lib.hid (vOrdered_n zv zs k zc w21 HZ.out (by omega) (Reads.of_own hO21))
            go_wp2_with fail
            refine HVO.out.mono ?_
            rintro e w22 ⟨V1, c1, rfl, oV1, b22⟩
            have oS22 := own_below oS21 b22 (Nat.le_refl _)
            have hB22 := hB21.trans (b22.mono hB21.size)
            have HLS : Hid ((srt zs).length = k) := Lib.hid (by rw [srt_len]; exact HZ.out)
            go_wp2_with fail
            refine (vInts_n A3 V1 (srt zs) k a3 c1 w22 HLS.out (by omega) (Reads.of_own oS22) (Reads.of_own oV1)).mono ?_
            rintro e w23 ⟨rfl, n23, rfl⟩
            cases cx
            case false =>
              go_wp2_with fail
              go_ret
              exact ⟨rfl, below_drewN hB22 n23⟩
            case true =>
              have hX1 := HFU.out rfl
              subst hX1
              go_wp2_with fail
              go_ret
              exact ⟨rfl, below_drewN hB22 n23⟩
end Go.Proofs.Yteigceeghnphmaa
