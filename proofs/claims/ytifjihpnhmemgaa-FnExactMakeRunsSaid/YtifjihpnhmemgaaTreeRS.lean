/- ReplaceWinner, the reference's side. -/
import Derived.Test.YtifjihpnhmemgaaTreeR
import Derived.Test.YtifjihpnhmemgaaTreeVS
namespace Go.Proofs.Ytifjihpnhmemgaa
open Go.RowKit
set_option linter.unusedVariables false
theorem TreeOwn.put4 {w : World} {base g tI tB T k cK cD cL : Nat} {AK AD AL : Option Addr} {ks ls : List Int} {ds : List Bool} {cs : Array Value} (h : TreeOwn w base tI tB k AK cK AD cD AL cL ks ds ls) (hb : Blk w g T cs) (h1 : tI ≠ T) (h2 : tB ≠ T) (a b c d : Value) :
    TreeOwn ((((w.setCell ⟨g, 0, none⟩ a).setCell ⟨g, 1, none⟩ b).setCell ⟨g, 2, none⟩ c).setCell ⟨g, 3, none⟩ d) base tI tB k AK cK AD cD AL cL ks ds ls :=
  ⟨own4 h.1 hb h1 a b c d, own4 h.2.1 hb h2 a b c d, own4 h.2.2.1 hb h1 a b c d, h.2.2.2⟩
set_option maxRecDepth 100000 in
set_option maxHeartbeats 3200000 in
theorem l16Replace_any (AK : Option Addr) (ks : List Int) (cK : Nat) (AD : Option Addr) (ds : List Bool) (cD : Nat) (AL : Option Addr) (cL k m : Nat) (key : Int) (done : Bool) (w : World) (hk : ks.length = k) (hd : ds.length = k)
    (hx : Reads w w.heap.size 1 AK ks.length (ints ks)) (hy : Reads w w.heap.size 1 AD ds.length (bools ds)) (hm : m < k) (hl : k ≤ 1048576) :
    Calls Try.prog 32 #[.agg #[.slice AK k cK, .slice AD k cD, .slice AL k cL, .int .i64 (m : Nat)], .int .i64 key, .bool done] w fun e w' => ∃ BK dK BD dD gL,
      e = .returned (.tuple #[.agg #[.slice BK k dK, .slice BD k dD, .slice (some ⟨gL, 0, none⟩) k k, .int .i64 (winnerV (ks.set m (if done then 0 else key)) (if done then ds.set m true else ds) : Nat)], .int .i64 (plen ((k + m) / 2) : Nat)]) ∧
      TreeOwn w' w.heap.size 3 4 k BK dK BD dD (some ⟨gL, 0, none⟩) k (ks.set m (if done then 0 else key)) (if done then ds.set m true else ds) (loserI (ks.set m (if done then 0 else key)) (if done then ds.set m true else ds)) ∧ Below w.heap.size w w' := by
  have hbA := alloc_ (alloc_ (Below.refl w.heap.size w) (.cells #[.slice AK k cK, .slice AD k cD, .slice AL k cL, .int .i64 (m : Nat)] 54)) (.cells #[.slice none 0 0, .slice none 0 0, .slice none 0 0, .int .i64 0] 54)
  have hblkT := (Blk.new w 54 #[.slice AK k cK, .slice AD k cD, .slice AL k cL, .int .i64 (m : Nat)]).alloc (.cells #[.slice none 0 0, .slice none 0 0, .slice none 0 0, .int .i64 0] 54)
  have hblkR := Blk.new (w.alloc (.cells #[.slice AK k cK, .slice AD k cD, .slice AL k cL, .int .i64 (m : Nat)] 54)) 54 #[.slice none 0 0, .slice none 0 0, .slice none 0 0, .int .i64 0]
  rw [World.size_alloc] at hblkR
  generalize hwA : (w.alloc (.cells #[.slice AK k cK, .slice AD k cD, .slice AL k cL, .int .i64 (m : Nat)] 54)).alloc (.cells #[.slice none 0 0, .slice none 0 0, .slice none 0 0, .int .i64 0] 54) = wA at *
  obtain ⟨i1, hj, hy0, hy1, hy2⟩ := info_parts (show (Try.prog.info? 4).map (fun i => (i.zero, i.size, i.bytes)) = some (some (.bool false), 1, 1) by kernel_rfl)
  have hB1 : ∀ u ∈ bools ds, u.oneCell' = true := by intro u hu; simp [bools] at hu; rcases hu with ⟨_, rfl⟩ | ⟨_, rfl⟩ <;> rfl
  have HB1 := Lib.hid hB1; clear hB1
  have HRK := Lib.hid ((hx.below hbA).more hbA.size)
  have HRD := Lib.hid ((hy.below hbA).more hbA.size)
  have HK := Lib.hid hk; have HD := Lib.hid hd
  have mI : (m : Int) < k := by omega
  obtain ⟨t0, t1, t2, t3⟩ := hblkT.four
  have htl := hblkT.lt
  clear hx hy hk hd
  have hple := plen_le _ ((k + m) / 2) (Nat.le_refl _)
  obtain ⟨q, hq⟩ : ∃ q, (k + m) / 2 = q := ⟨_, rfl⟩
  have HMI : Hid (((m : Int) + k) / 2 = (q : Nat)) := Lib.hid (by omega)
  have hq2 : q ≤ 1048576 := by omega
  rw [hq] at hple ⊢
  clear hq
  cases done
  case true =>
    simp only [if_true]
    go_enter Try.func32, Try.ntmps32
    go_wp2_with fail
    refine (copyS_any AK ks k cK wA HK.out HRK.out hl).mono ?_
    rintro e w1 ⟨vK, rfl, oK, hb1⟩
    obtain ⟨gK, dK, rfl, hKge, hKlt, -⟩ := own_some oK (by omega)
    obtain ⟨t0, t1, t2, t3⟩ := (hblkT.below_ hb1).four
    have htl := (hblkT.below_ hb1).lt
    have hB1 := bthen hbA hb1
    have hrD1 : Reads w1 wA.heap.size 1 AD k (bools ds) := by have := HRD.out.below hb1; rwa [HD.out] at this
    go_upto_region 3 with (at_builtin; refine wpList_append_any _ rfl (.tmp 15) (.tmp 17) 52 rfl w1.heap.size 4 i1 _ 1 1 Try.underlying52 hj hy0 hy1 hy2 rfl (by decide) (.slice (some ⟨w1.heap.size, 0, none⟩) 0 0) 0 [] rfl (made_at (Nat.le_refl _) rfl) wA.heap.size AD k cD (bools ds) rfl (hrD1.alloc hb1.size _) HB1.out (by unfold maxLen; omega) (by omega) (by simp) ?_; intro vD w2 oD gD0 hatD)
    simp only [Nat.zero_add, List.nil_append] at oD
    have gD1 : Below w1.heap.size w1 w2 := (alloc_ (Below.refl w1.heap.size w1) _).trans (below_of_grown gD0 (by simp) (by intro q hq; have h : w1.heap.size = q := Option.some.inj hq; omega))
    obtain ⟨gD, dD, rfl, hDge, hDlt, -⟩ := own_some oD (by omega)
    have hB2 := bthen hB1 gD1
    have hoK2 := own_below oK gD1 (Nat.le_refl _)
    have hT2 := (hblkT.below_ hb1).below_ gD1
    have hR2 := (hblkR.below_ hb1).below_ gD1
    clear t0 t1 t2 t3 htl hrD1 gD0 hatD
    obtain ⟨t0, t1, t2, t3⟩ := hT2.four
    have htl := hT2.lt
    have qK := hoK2.cellAt m (by omega)
    rw [ints_get (by have := HK.out; omega)] at qK
    have fK := hoK2.frozenAt m
    have h1 : w.heap.size + 1 < gK := by have := hblkR.lt; omega
    have h2 : w.heap.size + 1 < gD := by have := hblkR.lt; have := hb1.size; omega
    have hgg : gK ≠ gD := by omega
    have s1 := hoK2.stored m (.int .i64 key)
    rw [show (ints ks).set m (.int .i64 key) = ints (ks.set m key) from by simp [ints, List.map_set]] at s1
    have s2 := s1.1.stored m (.int .i64 0)
    rw [show (ints (ks.set m key)).set m (.int .i64 0) = ints (ks.set m 0) from by simp [ints, ← List.map_set]] at s2
    have oD2 := own_setCell (own_setCell oD (p := ⟨gK, m, none⟩) (by intro e; exact hgg (Option.some.inj e).symm) (.int .i64 key)) (p := ⟨gK, m, none⟩) (by intro e; exact hgg (Option.some.inj e).symm) (.int .i64 0)
    have qD := oD2.cellAt m (by omega)
    rw [bools_get (by have := HD.out; omega)] at qD
    have fD := oD2.frozenAt m
    have s3 := oD2.stored m (.bool true)
    rw [show (bools ds).set m (.bool true) = bools (ds.set m true) from by simp [bools, List.map_set]] at s3
    have qK2 := s1.1.cellAt m (by omega)
    rw [ints_get (by rw [List.length_set, HK.out]; omega)] at qK2
    have fK2 := s1.1.frozenAt m
    have oK3 := own_setCell s2.1 (p := ⟨gD, m, none⟩) (by intro e; exact hgg (Option.some.inj e)) (.bool true)
    have hb3 := Below.setCell (Below.setCell (Below.setCell hB2 (p := ⟨gK, m, none⟩) (by simp; omega) (.int .i64 key)) (p := ⟨gK, m, none⟩) (by simp; omega) (.int .i64 0)) (p := ⟨gD, m, none⟩) (by simp; omega) (.bool true)
    have hT3 := ((hT2.far (p := ⟨gK, m, none⟩) (by simp; omega) (.int .i64 key)).far (p := ⟨gK, m, none⟩) (by simp; omega) (.int .i64 0)).far (p := ⟨gD, m, none⟩) (by simp; omega) (.bool true)
    have hR3 := ((hR2.far (p := ⟨gK, m, none⟩) (by simp; omega) (.int .i64 key)).far (p := ⟨gK, m, none⟩) (by simp; omega) (.int .i64 0)).far (p := ⟨gD, m, none⟩) (by simp; omega) (.bool true)
    have oD3 := s3.1
    have N1 : gK ≠ w.heap.size := by omega
    have N2 : w.heap.size ≠ gK := by omega
    have N3 : gD ≠ w.heap.size := by omega
    have N4 : w.heap.size ≠ gD := by omega
    have N5 : gD ≠ gK := by omega
    have OK3 := Lib.hid oK3; have OD3 := Lib.hid oD3; have HB3 := Lib.hid hb3; have HT3 := Lib.hid hT3; have HR3 := Lib.hid hR3
    clear s1 oK3 oD3 hb3 hT3 hR3 hT2 hR2 hoK2 oD oK gD1 s2 s3 oD2
    go_upto_region 7 with fail
    clear t0 t1 t2 t3 htl qK fK qK2 fK2 qD fD
    generalize ((w2.setCell ⟨gK, m, none⟩ (.int .i64 key)).setCell ⟨gK, m, none⟩ (.int .i64 0)).setCell ⟨gD, m, none⟩ (.bool true) = w5 at *
    obtain ⟨t0, t1, t2, t3⟩ := HT3.out.four
    have htl := HT3.out.lt
    have HKL : Hid ((ks.set m 0).length = k) := Lib.hid (by rw [List.length_set, HK.out])
    have HDL : Hid ((ds.set m true).length = k) := Lib.hid (by rw [List.length_set, HD.out])
    have hM := Lib.hid (sMake_any (some ⟨gK, 0, none⟩) (ks.set m 0) dK (some ⟨gD, 0, none⟩) (ds.set m true) dD k w5 HKL.out HDL.out (by rw [HKL.out]; exact Reads.of_own OK3.out) (by rw [HDL.out]; exact Reads.of_own OD3.out) (by omega) hl)
    go_wp2_with fail
    rw [HMI.out]
    go_loop [10, 11] (fun n p => ∃ a b : Nat, Hid (a + plen b = plen q) ∧ plen b ≤ 1048576 ∧ a ≤ 1048576 ∧ b ≤ q ∧ n = .int .i64 (a : Nat) ∧ p = .int .i64 (b : Nat)) (fun _ p => (intOf p).toNat)
    case atStart => exact ⟨0, q, Lib.hid (by omega), by omega, by omega, Nat.le_refl _, rfl, rfl⟩
    case round =>
      obtain ⟨a, b, HAB, hpb, ha, hbm, rfl, rfl⟩ := hrel
      by_cases hb : 1 ≤ b
      · have hs := plen_step hb
        have hbI : (b : Int) > 0 := by omega
        have hbI2 : (0 : Int) < b := by omega
        have HAB2 : Hid (a + 1 + plen (b / 2) = plen q) := Lib.hid (by have := HAB.out; omega)
        have ha2 : a + 1 ≤ 1048576 := by have := HAB.out; omega
        have hpb2 : plen (b / 2) ≤ 1048576 := by omega
        clear hs
        go_wp2_with fail
        go_round
        case rel => exact ⟨a + 1, b / 2, HAB2, hpb2, ha2, by omega, by go_num, by go_num⟩
        case measure => simp [intOf]; omega
      · obtain rfl : b = 0 := by omega
        have HA : Hid (a = plen q) := Lib.hid (by have := HAB.out; rw [plen_zero] at this; omega)
        clear HAB hple hpb
        go_wp2_with fail
        refine hM.out.mono ?_
        rintro e w6 ⟨BK, eK, BD, eD, gL, rfl, hown, hb6⟩
        have hR6 := HR3.out.below_ hb6
        have hB6 := bthen HB3.out hb6
        have hbx := HB3.out.size
        have hT6 : TreeOwn w6 w.heap.size 3 4 k BK eK BD eD (some ⟨gL, 0, none⟩) k (ks.set m 0) (ds.set m true) (loserI (ks.set m 0) (ds.set m true)) := ⟨own_base hown.1 hbx, own_base hown.2.1 hbx, own_base hown.2.2.1 hbx, hown.2.2.2⟩
        generalize hWV : winnerV (ks.set m 0) (ds.set m true) = W at *
        have HWV := Lib.hid hWV; clear hWV
        have hf := blk4 (a' := .slice BK k eK) (b' := .slice BD k eD) (c' := .slice (some ⟨gL, 0, none⟩) k k) (d' := .int .i64 (W : Nat)) hR6
        obtain ⟨r0, r1, r2, r3⟩ := hf.four
        have R0 := Lib.hid r0; have R1 := Lib.hid r1; have R2 := Lib.hid r2; have R3 := Lib.hid r3
        have HBF := Lib.hid (below4 hB6 (Nat.le_succ _) (.slice BK k eK) (.slice BD k eD) (.slice (some ⟨gL, 0, none⟩) k k) (.int .i64 (W : Nat)))
        have HTF := Lib.hid (TreeOwn.put4 hT6 hR6 (by decide) (by decide) (.slice BK k eK) (.slice BD k eD) (.slice (some ⟨gL, 0, none⟩) k k) (.int .i64 (W : Nat)))
        obtain ⟨z0', z1, z2, z3⟩ := hR6.four
        obtain ⟨f0, f1, f2, f3⟩ := hR6.ice
        have hlt := hR6.lt
        clear hf r0 r1 r2 r3 hM t0 t1 t2 t3 htl hT6 hown
        go_wp2_with fail
        refine bodyPost_ret (v := .tuple #[.agg #[.slice BK k eK, .slice BD k eD, .slice (some ⟨gL, 0, none⟩) k k, .int .i64 (W : Nat)], .int .i64 (a : Nat)]) (by simp [results, Try.results32, go_sem, R0.out, R1.out, R2.out, R3.out]) rfl ⟨BK, eK, BD, eD, gL, ?_, HTF.out, HBF.out⟩
        rw [HWV.out]
        exact congrArg (fun x : Nat => Ending.returned (.tuple #[.agg #[.slice BK k eK, .slice BD k eD, .slice (some ⟨gL, 0, none⟩) k k, .int .i64 (W : Nat)], .int .i64 (x : Int)])) HA.out

  case false =>
    simp only [if_false, Bool.false_eq_true]
    go_enter Try.func32, Try.ntmps32
    go_wp2_with fail
    refine (copyS_any AK ks k cK wA HK.out HRK.out hl).mono ?_
    rintro e w1 ⟨vK, rfl, oK, hb1⟩
    obtain ⟨gK, dK, rfl, hKge, hKlt, -⟩ := own_some oK (by omega)
    obtain ⟨t0, t1, t2, t3⟩ := (hblkT.below_ hb1).four
    have htl := (hblkT.below_ hb1).lt
    have hB1 := bthen hbA hb1
    have hrD1 : Reads w1 wA.heap.size 1 AD k (bools ds) := by have := HRD.out.below hb1; rwa [HD.out] at this
    go_upto_region 3 with (at_builtin; refine wpList_append_any _ rfl (.tmp 15) (.tmp 17) 52 rfl w1.heap.size 4 i1 _ 1 1 Try.underlying52 hj hy0 hy1 hy2 rfl (by decide) (.slice (some ⟨w1.heap.size, 0, none⟩) 0 0) 0 [] rfl (made_at (Nat.le_refl _) rfl) wA.heap.size AD k cD (bools ds) rfl (hrD1.alloc hb1.size _) HB1.out (by unfold maxLen; omega) (by omega) (by simp) ?_; intro vD w2 oD gD0 hatD)
    simp only [Nat.zero_add, List.nil_append] at oD
    have gD1 : Below w1.heap.size w1 w2 := (alloc_ (Below.refl w1.heap.size w1) _).trans (below_of_grown gD0 (by simp) (by intro q hq; have h : w1.heap.size = q := Option.some.inj hq; omega))
    obtain ⟨gD, dD, rfl, hDge, hDlt, -⟩ := own_some oD (by omega)
    have hB2 := bthen hB1 gD1
    have hoK2 := own_below oK gD1 (Nat.le_refl _)
    have hT2 := (hblkT.below_ hb1).below_ gD1
    have hR2 := (hblkR.below_ hb1).below_ gD1
    clear t0 t1 t2 t3 htl hrD1 gD0 hatD
    obtain ⟨t0, t1, t2, t3⟩ := hT2.four
    have htl := hT2.lt
    have qK := hoK2.cellAt m (by omega)
    rw [ints_get (by have := HK.out; omega)] at qK
    have fK := hoK2.frozenAt m
    have h1 : w.heap.size + 1 < gK := by have := hblkR.lt; omega
    have h2 : w.heap.size + 1 < gD := by have := hblkR.lt; have := hb1.size; omega
    have hgg : gK ≠ gD := by omega
    have s1 := hoK2.stored m (.int .i64 key)
    rw [show (ints ks).set m (.int .i64 key) = ints (ks.set m key) from by simp [ints, List.map_set]] at s1
    have oD3 := own_setCell oD (p := ⟨gK, m, none⟩) (by intro e; exact hgg (Option.some.inj e).symm) (.int .i64 key)
    have oK3 := s1.1
    have hb3 := Below.setCell hB2 (p := ⟨gK, m, none⟩) (by simp; omega) (.int .i64 key)
    have hT3 := hT2.far (p := ⟨gK, m, none⟩) (by simp; omega) (.int .i64 key)
    have hR3 := hR2.far (p := ⟨gK, m, none⟩) (by simp; omega) (.int .i64 key)
    have N1 : gK ≠ w.heap.size := by omega
    have N2 : w.heap.size ≠ gK := by omega
    have N3 : gD ≠ w.heap.size := by omega
    have N4 : w.heap.size ≠ gD := by omega
    have N5 : gD ≠ gK := by omega
    have OK3 := Lib.hid oK3; have OD3 := Lib.hid oD3; have HB3 := Lib.hid hb3; have HT3 := Lib.hid hT3; have HR3 := Lib.hid hR3
    clear s1 oK3 oD3 hb3 hT3 hR3 hT2 hR2 hoK2 oD oK gD1
    go_upto_region 7 with fail
    clear t0 t1 t2 t3 htl qK fK
    generalize w2.setCell ⟨gK, m, none⟩ (.int .i64 key) = w5 at *
    obtain ⟨t0, t1, t2, t3⟩ := HT3.out.four
    have htl := HT3.out.lt
    have HKL : Hid ((ks.set m key).length = k) := Lib.hid (by rw [List.length_set, HK.out])
    have HDL : Hid (ds.length = k) := Lib.hid HD.out
    have hM := Lib.hid (sMake_any (some ⟨gK, 0, none⟩) (ks.set m key) dK (some ⟨gD, 0, none⟩) ds dD k w5 HKL.out HDL.out (by rw [HKL.out]; exact Reads.of_own OK3.out) (by rw [HDL.out]; exact Reads.of_own OD3.out) (by omega) hl)
    go_wp2_with fail
    rw [HMI.out]
    go_loop [10, 11] (fun n p => ∃ a b : Nat, Hid (a + plen b = plen q) ∧ plen b ≤ 1048576 ∧ a ≤ 1048576 ∧ b ≤ q ∧ n = .int .i64 (a : Nat) ∧ p = .int .i64 (b : Nat)) (fun _ p => (intOf p).toNat)
    case atStart => exact ⟨0, q, Lib.hid (by omega), by omega, by omega, Nat.le_refl _, rfl, rfl⟩
    case round =>
      obtain ⟨a, b, HAB, hpb, ha, hbm, rfl, rfl⟩ := hrel
      by_cases hb : 1 ≤ b
      · have hs := plen_step hb
        have hbI : (b : Int) > 0 := by omega
        have hbI2 : (0 : Int) < b := by omega
        have HAB2 : Hid (a + 1 + plen (b / 2) = plen q) := Lib.hid (by have := HAB.out; omega)
        have ha2 : a + 1 ≤ 1048576 := by have := HAB.out; omega
        have hpb2 : plen (b / 2) ≤ 1048576 := by omega
        clear hs
        go_wp2_with fail
        go_round
        case rel => exact ⟨a + 1, b / 2, HAB2, hpb2, ha2, by omega, by go_num, by go_num⟩
        case measure => simp [intOf]; omega
      · obtain rfl : b = 0 := by omega
        have HA : Hid (a = plen q) := Lib.hid (by have := HAB.out; rw [plen_zero] at this; omega)
        clear HAB hple hpb
        go_wp2_with fail
        refine hM.out.mono ?_
        rintro e w6 ⟨BK, eK, BD, eD, gL, rfl, hown, hb6⟩
        have hR6 := HR3.out.below_ hb6
        have hB6 := bthen HB3.out hb6
        have hbx := HB3.out.size
        have hT6 : TreeOwn w6 w.heap.size 3 4 k BK eK BD eD (some ⟨gL, 0, none⟩) k (ks.set m key) ds (loserI (ks.set m key) ds) := ⟨own_base hown.1 hbx, own_base hown.2.1 hbx, own_base hown.2.2.1 hbx, hown.2.2.2⟩
        generalize hWV : winnerV (ks.set m key) ds = W at *
        have HWV := Lib.hid hWV; clear hWV
        have hf := blk4 (a' := .slice BK k eK) (b' := .slice BD k eD) (c' := .slice (some ⟨gL, 0, none⟩) k k) (d' := .int .i64 (W : Nat)) hR6
        obtain ⟨r0, r1, r2, r3⟩ := hf.four
        have R0 := Lib.hid r0; have R1 := Lib.hid r1; have R2 := Lib.hid r2; have R3 := Lib.hid r3
        have HBF := Lib.hid (below4 hB6 (Nat.le_succ _) (.slice BK k eK) (.slice BD k eD) (.slice (some ⟨gL, 0, none⟩) k k) (.int .i64 (W : Nat)))
        have HTF := Lib.hid (TreeOwn.put4 hT6 hR6 (by decide) (by decide) (.slice BK k eK) (.slice BD k eD) (.slice (some ⟨gL, 0, none⟩) k k) (.int .i64 (W : Nat)))
        obtain ⟨z0', z1, z2, z3⟩ := hR6.four
        obtain ⟨f0, f1, f2, f3⟩ := hR6.ice
        have hlt := hR6.lt
        clear hf r0 r1 r2 r3 hM t0 t1 t2 t3 htl hT6 hown
        go_wp2_with fail
        refine bodyPost_ret (v := .tuple #[.agg #[.slice BK k eK, .slice BD k eD, .slice (some ⟨gL, 0, none⟩) k k, .int .i64 (W : Nat)], .int .i64 (a : Nat)]) (by simp [results, Try.results32, go_sem, R0.out, R1.out, R2.out, R3.out]) rfl ⟨BK, eK, BD, eD, gL, ?_, HTF.out, HBF.out⟩
        rw [HWV.out]
        exact congrArg (fun x : Nat => Ending.returned (.tuple #[.agg #[.slice BK k eK, .slice BD k eD, .slice (some ⟨gL, 0, none⟩) k k, .int .i64 (W : Nat)], .int .i64 (x : Int)])) HA.out
theorem set_same {ds : List Bool} {m : Nat} {x : Bool} (h : ds[m]? = some x) : ds.set m x = ds := by
  obtain ⟨hlt, hx⟩ := List.getElem?_eq_some_iff.1 h
  rw [← hx, List.set_getElem_self]
end Go.Proofs.Ytifjihpnhmemgaa
