/- ReplaceWinner, the reference's side. -/
import Derived.Test.YteigceeghnphmaaTreeR
import Derived.Test.YteigceeghnphmaaTreeVS
namespace Go.Proofs.Yteigceeghnphmaa
open Go.RowKit
set_option linter.unusedVariables false
theorem TreeOwn.put4 {w : World} {base g tI tB T k cK cD cL : Nat} {AK AD AL : Option Addr} {ks ls : List Int} {ds : List Bool} {cs : Array Value} (h : TreeOwn w base tI tB k AK cK AD cD AL cL ks ds ls) (hb : Blk w g T cs) (h1 : tI ≠ T) (h2 : tB ≠ T) (a b c d : Value) :
    TreeOwn ((((w.setCell ⟨g, 0, none⟩ a).setCell ⟨g, 1, none⟩ b).setCell ⟨g, 2, none⟩ c).setCell ⟨g, 3, none⟩ d) base tI tB k AK cK AD cD AL cL ks ds ls :=
  ⟨own4 h.1 hb h1 a b c d, own4 h.2.1 hb h2 a b c d, own4 h.2.2.1 hb h1 a b c d, h.2.2.2⟩
set_option maxRecDepth 100000 in
set_option maxHeartbeats 3200000 in
theorem l16Replace_any (AK : Option Addr) (ks : List Int) (cK : Nat) (AD : Option Addr) (ds : List Bool) (cD : Nat) (AL : Option Addr) (cL k m : Nat) (key : Int) (done : Bool) (w : World) (hk : ks.length = k) (hd : ds.length = k)
    (hx : Reads w w.heap.size 1 AK ks.length (ints ks)) (hy : Reads w w.heap.size 1 AD ds.length (bools ds)) (hm : m < k) (hl : k ≤ 1048576) :
    Calls Try.prog 95 #[.agg #[.slice AK k cK, .slice AD k cD, .slice AL k cL, .int .i64 (m : Nat)], .int .i64 key, .bool done] w fun e w' => ∃ BK dK BD dD gL,
      e = .returned (.tuple #[.agg #[.slice BK k dK, .slice BD k dD, .slice (some ⟨gL, 0, none⟩) k k, .int .i64 (winnerV (ks.set m (if done then 0 else key)) (if done then ds.set m true else ds) : Nat)], .int .i64 (plen ((k + m) / 2) : Nat)]) ∧
      TreeOwn w' w.heap.size 3 4 k BK dK BD dD (some ⟨gL, 0, none⟩) k (ks.set m (if done then 0 else key)) (if done then ds.set m true else ds) (loserI (ks.set m (if done then 0 else key)) (if done then ds.set m true else ds)) ∧ Below w.heap.size w w' := by
  have hbA := alloc_ (alloc_ (Below.refl w.heap.size w) (.cells #[.slice AK k cK, .slice AD k cD, .slice AL k cL, .int .i64 (m : Nat)] 57)) (.cells #[.slice none 0 0, .slice none 0 0, .slice none 0 0, .int .i64 0] 57)
  have hblkT := (Blk.new w 57 #[.slice AK k cK, .slice AD k cD, .slice AL k cL, .int .i64 (m : Nat)]).alloc (.cells #[.slice none 0 0, .slice none 0 0, .slice none 0 0, .int .i64 0] 57)
  have hblkR := Blk.new (w.alloc (.cells #[.slice AK k cK, .slice AD k cD, .slice AL k cL, .int .i64 (m : Nat)] 57)) 57 #[.slice none 0 0, .slice none 0 0, .slice none 0 0, .int .i64 0]
  rw [World.size_alloc] at hblkR
  generalize hwA : (w.alloc (.cells #[.slice AK k cK, .slice AD k cD, .slice AL k cL, .int .i64 (m : Nat)] 57)).alloc (.cells #[.slice none 0 0, .slice none 0 0, .slice none 0 0, .int .i64 0] 57) = wA at *
  obtain ⟨i1, hj, hy0, hy1, hy2⟩ := info_parts (show (Try.prog.info? 4).map (fun i => (i.zero, i.size, i.bytes)) = some (some (.bool false), 1, 1) by kernel_rfl)
  have hB1 : ∀ u ∈ bools ds, u.oneCell' = true := by intro u hu; simp [bools] at hu; rcases hu with ⟨_, rfl⟩ | ⟨_, rfl⟩ <;> rfl
  have HB1 := Lib.hid hB1; clear hB1
  have HRK := Lib.hid ((hx.below hbA).more hbA.size)
  have HRD := Lib.hid ((hy.below hbA).more hbA.size)
  have HK := Lib.hid hk; have HD := Lib.hid hd
  have mI : (m : Int) < k := by omega
  obtain ⟨t0, t1, t2, t3⟩ := hblkT.four
  have htl := hblkT.lt
  clear hx hy hk hd
  have hple := plen_le _ ((k + m) / 2) (Nat.le_refl _)
  obtain ⟨q, hq⟩ : ∃ q, (k + m) / 2 = q := ⟨_, rfl⟩
  have HMI : Hid (((m : Int) + k) / 2 = (q : Nat)) := Lib.hid (by omega)
  have hq2 : q ≤ 1048576 := by omega
  rw [hq] at hple ⊢
  clear hq
  cases done
  case true =>
    simp only [if_true]
    go_enter Try.func95, Try.ntmps95
    go_wp2_with fail
    refine (copyS_any AK ks k cK wA HK.out HRK.out hl).mono ?_
    rintro e w1 ⟨vK, rfl, oK, hb1⟩
    obtain ⟨gK, dK, rfl, hKge, hKlt, -⟩ := own_some oK (by omega)
    obtain ⟨t0, t1, t2, t3⟩ := (hblkT.below_ hb1).four
    have htl := (hblkT.below_ hb1).lt
    have hB1 := bthen hbA hb1
    have hrD1 : Reads w1 wA.heap.size 1 AD k (bools ds) := by have := HRD.out.below hb1; rwa [HD.out] at this
    go_upto_region 3 with (at_builtin; refine wpList_append_any _ rfl (.tmp 15) (.tmp 17) 55 rfl w1.heap.size 4 i1 _ 1 1 Try.underlying55 hj hy0 hy1 hy2 rfl (by decide) (.slice (some ⟨w1.heap.size, 0, none⟩) 0 0) 0 [] rfl (made_at (Nat.le_refl _) rfl) wA.heap.size AD k cD (bools ds) rfl (hrD1.alloc hb1.size _) HB1.out (by unfold maxLen; omega) (by omega) (by simp) ?_; intro vD w2 oD gD0 hatD)
    simp only [Nat.zero_add, List.nil_append] at oD
    have gD1 : Below w1.heap.size w1 w2 := (alloc_ (Below.refl w1.heap.size w1) _).trans (below_of_grown gD0 (by simp) (by intro q hq; have h : w1.heap.size = q := Option.some.inj hq; omega))
    obtain ⟨gD, dD, rfl, hDge, hDlt, -⟩ := own_some oD (by omega)
    have hB2 := bthen hB1 gD1
    have hoK2 := own_below oK gD1 (Nat.le_refl _)
    have hT2 := (hblkT.below_ hb1).below_ gD1
    have hR2 := (hblkR.below_ hb1).below_ gD1
    clear t0 t1 t2 t3 htl hrD1 gD0 hatD
    obtain ⟨t0, t1, t2, t3⟩ := hT2.four
    have htl := hT2.lt
    have qK := hoK2.cellAt m (by omega)
    rw [ints_get (by have := HK.out; omega)] at qK
    have fK := hoK2.frozenAt m
    have h1 : w.heap.size + 1 < gK := by have := hblkR.lt; omega
    have h2 : w.heap.size + 1 < gD := by have := hblkR.lt; have := hb1.size; omega
    have hgg : gK ≠ gD := by omega
    have s1 := hoK2.stored m (.int .i64 key)
    rw [show (ints ks).set m (.int .i64 key) = ints (ks.set m key) from by simp [ints, List.map_set]] at s1
    have s2 := s1.1.stored m (.int .i64 0)
    rw [show (ints (ks.set m key)).set m (.int .i64 0) = ints (ks.set m 0) from by simp [ints, ← List.map_set]] at s2
    have oD2 := own_setCell (own_setCell oD (p := ⟨gK, m, none⟩) (by intro e; exact hgg (Option.some.inj e).symm) (.int .i64 key)) (p := ⟨gK, m, none⟩) (by intro e; exact hgg (Option.some.inj e).symm) (.int .i64 0)
    have qD := oD2.cellAt m (by omega)
    rw [bools_get (by have := HD.out; omega)] at qD
    have fD := oD2.frozenAt m
    have s3 := oD2.stored m (.bool true)
    rw [show (bools ds).set m (.bool true) = bools (ds.set m true) from by simp [bools, List.map_set]] at s3
    have qK2 := s1.1.cellAt m (by omega)
    rw [ints_get (by rw [List.length_set, HK.out]; omega)] at qK2
    have fK2 := s1.1.frozenAt m
    have oK3 := own_setCell s2.1 (p := ⟨gD, m, none⟩) (by intro e; exact hgg (Option.some.inj e)) (.bool true)
    have hb3 := Below.setCell (Below.setCell (Below.setCell hB2 (p := ⟨gK, m, none⟩) (by simp; omega) (.int .i64 key)) (p := ⟨gK, m, none⟩) (by simp; omega) (.int .i64 0)) (p := ⟨gD, m, none⟩) (by simp; omega) (.bool true)
    have hT3 := ((hT2.far (p := ⟨gK, m, none⟩) (by simp; omega) (.int .i64 key)).far (p := ⟨gK, m, none⟩) (by simp; omega) (.int .i64 0)).far (p := ⟨gD, m, none⟩) (by simp; omega) (.bool true)
    have hR3 := ((hR2.far (p := ⟨gK, m, none⟩) (by simp; omega) (.int .i64 key)).far (p := ⟨gK, m, none⟩) (by simp; omega) (.int .i64 0)).far (p := ⟨gD, m, none⟩) (by simp; omega) (.bool true)
    have oD3 := s3.1
    have N1 : gK ≠ w.heap.size := by omega
    have N2 : w.heap.size ≠ gK := by omega
    have N3 : gD ≠ w.heap.size := by omega
    have N4 : w.heap.size ≠ gD := by omega
    have N5 : gD ≠ gK := by omega
    have OK3 := Lib.hid oK3; have OD3 := Lib.hid oD3; have HB3 := Lib.hid hb3; have HT3 := Lib.hid hT3; have HR3 := Lib.hid hR3
    clear s1 oK3 oD3 hb3 hT3 hR3 hT2 hR2 hoK2 oD oK gD1 s2 s3 oD2
    go_upto_region 7 with fail
    clear t0 t1 t2 t3 htl qK fK qK2 fK2 qD fD
    generalize ((w2.setCell ⟨gK, m, none⟩ (.int .i64 key)).setCell ⟨gK, m, none⟩ (.int .i64 0)).setCell ⟨gD, m, none⟩ (.bool true) = w5 at *
    obtain ⟨t0, t1, t2, t3⟩ := HT3.out.four
    have htl := HT3.out.lt
    have HKL : Hid ((ks.set m 0).length = k) := Lib.hid (by rw [List.length_set, HK.out])
    have HDL : Hid ((ds.set m true).length = k) := Lib.hid (by rw [List.length_set, HD.out])
    have hM := Lib.hid (sMake_any (some ⟨gK, 0, none⟩) (ks.set m 0) dK (some ⟨gD, 0, none⟩) (ds.set m true) dD k w5 HKL.out HDL.out (by rw [HKL.out]; exact Reads.of_own OK3.out) (by rw [HDL.out]; exact Reads.of_own OD3.out) (by omega) hl)
    go_wp2_with fail
    rw [HMI.out]
    go_loop [10, 11] (fun n p => ∃ a b : Nat, Hid (a + plen b = plen q) ∧ plen b ≤ 1048576 ∧ a ≤ 1048576 ∧ b ≤ q ∧ n = .int .i64 (a : Nat) ∧ p = .int .i64 (b : Nat)) (fun _ p => (intOf p).toNat)
    case atStart => exact ⟨0, q, Lib.hid (by omega), by omega, by omega, Nat.le_refl _, rfl, rfl⟩
    case round =>
      obtain ⟨a, b, HAB, hpb, ha, hbm, rfl, rfl⟩ := hrel
      by_cases hb : 1 ≤ b
      · have hs := plen_step hb
        have hbI : (b : Int) > 0 := by omega
        have hbI2 : (0 : Int) < b := by omega
        have HAB2 : Hid (a + 1 + plen (b / 2) = plen q) := Lib.hid (by have := HAB.out; omega)
        have ha2 : a + 1 ≤ 1048576 := by have := HAB.out; omega
        have hpb2 : plen (b / 2) ≤ 1048576 := by omega
        clear hs
        go_wp2_with fail
        go_round
        case rel => exact ⟨a + 1, b / 2, HAB2, hpb2, ha2, by omega, by go_num, by go_num⟩
        case measure => simp [intOf]; omega
      · obtain rfl : b = 0 := by omega
        have HA : Hid (a = plen q) := Lib.hid (by have := HAB.out; rw [plen_zero] at this; omega)
        clear HAB hple hpb
        go_wp2_with fail
        refine hM.out.mono ?_
        rintro e w6 ⟨BK, eK, BD, eD, gL, rfl, hown, hb6⟩
        have hR6 := HR3.out.below_ hb6
        have hB6 := bthen HB3.out hb6
        have hbx := HB3.out.size
        have hT6 : TreeOwn w6 w.heap.size 3 4 k BK eK BD eD (some ⟨gL, 0, none⟩) k (ks.set m 0) (ds.set m true) (loserI (ks.set m 0) (ds.set m true)) := ⟨own_base hown.1 hbx, own_base hown.2.1 hbx, own_base hown.2.2.1 hbx, hown.2.2.2⟩
        generalize hWV : winnerV (ks.set m 0) (ds.set m true) = W at *
        have HWV := Lib.hid hWV; clear hWV
        have hf := blk4 (a' := .slice BK k eK) (b' := .slice BD k eD) (c' := .slice (some ⟨gL, 0, none⟩) k k) (d' := .int .i64 (W : Nat)) hR6
        obtain ⟨r0, r1, r2, r3⟩ := hf.four
        have R0 := Lib.hid r0; have R1 := Lib.hid r1; have R2 := Lib.hid r2; have R3 := Lib.hid r3
        have HBF := Lib.hid (below4 hB6 (Nat.le_succ _) (.slice BK k eK) (.slice BD k eD) (.slice (some ⟨gL, 0, none⟩) k k) (.int .i64 (W : Nat)))
        have HTF := Lib.hid (TreeOwn.put4 hT6 hR6 (by decide) (by decide) (.slice BK k eK) (.slice BD k eD) (.slice (some ⟨gL, 0, none⟩) k k) (.int .i64 (W : Nat)))
        obtain ⟨z0', z1, z2, z3⟩ := hR6.four
        obtain ⟨f0, f1, f2, f3⟩ := hR6.ice
        have hlt := hR6.lt
        clear hf r0 r1 r2 r3 hM t0 t1 t2 t3 htl hT6 hown
        go_wp2_with fail
        refine bodyPost_ret (v := .tuple #[.agg #[.slice BK k eK, .slice BD k eD, .slice (some ⟨gL, 0, none⟩) k k, .int .i64 (W : Nat)], .int .i64 (a : Nat)]) (by simp [results, Try.results95, go_sem, R0.out, R1.out, R2.out, R3.out]) rfl ⟨BK, eK, BD, eD, gL, ?_, HTF.out, HBF.out⟩
        rw [HWV.out]
        exact congrArg (fun x : Nat => Ending.returned (.tuple #[.agg #[.slice BK k eK, .slice BD k eD, .slice (some ⟨gL, 0, none⟩) k k, .int .i64 (W : Nat)], .int .i64 (x : Int)])) HA.out

  case false =>
    simp only [if_false, Bool.false_eq_true]
    go_enter Try.func95, Try.ntmps95
    go_wp2_with fail
    refine (copyS_any AK ks k cK wA HK.out HRK.out hl).mono ?_
    rintro e w1 ⟨vK, rfl, oK, hb1⟩
    obtain ⟨gK, dK, rfl, hKge, hKlt, -⟩ := own_some oK (by omega)
    obtain ⟨t0, t1, t2, t3⟩ := (hblkT.below_ hb1).four
    have htl := (hblkT.below_ hb1).lt
    have hB1 := bthen hbA hb1
    have hrD1 : Reads w1 wA.heap.size 1 AD k (bools ds) := by have := HRD.out.below hb1; rwa [HD.out] at this
    go_upto_region 3 with (at_builtin; refine wpList_append_any _ rfl (.tmp 15) (.tmp 17) 55 rfl w1.heap.size 4 i1 _ 1 1 Try.underlying55 hj hy0 hy1 hy2 rfl (by decide) (.slice (some ⟨w1.heap.size, 0, none⟩) 0 0) 0 [] rfl (made_at (Nat.le_refl _) rfl) wA.heap.size AD k cD (bools ds) rfl (hrD1.alloc hb1.size _) HB1.out (by unfold maxLen; omega) (by omega) (by simp) ?_; intro vD w2 oD gD0 hatD)
    simp only [Nat.zero_add, List.nil_append] at oD
    have gD1 : Below w1.heap.size w1 w2 := (alloc_ (Below.refl w1.heap.size w1) _).trans (below_of_grown gD0 (by simp) (by intro q hq; have h : w1.heap.size = q := Option.some.inj hq; omega))
    obtain ⟨gD, dD, rfl, hDge, hDlt, -⟩ := own_some oD (by omega)
    have hB2 := bthen hB1 gD1
    have hoK2 := own_below oK gD1 (Nat.le_refl _)
    have hT2 := (hblkT.below_ hb1).below_ gD1
    have hR2 := (hblkR.below_ hb1).below_ gD1
    clear t0 t1 t2 t3 htl hrD1 gD0 hatD
    obtain ⟨t0, t1, t2, t3⟩ := hT2.four
    have htl := hT2.lt
    have qK := hoK2.cellAt m (by omega)
    rw [ints_get (by have := HK.out; omega)] at qK
    have fK := hoK2.frozenAt m
    have h1 : w.heap.size + 1 < gK := by have := hblkR.lt; omega
    have h2 : w.heap.size + 1 < gD := by have := hblkR.lt; have := hb1.size; omega
    have hgg : gK ≠ gD := by omega
    have s1 := hoK2.stored m (.int .i64 key)
    rw [show (ints ks).set m (.int .i64 key) = ints (ks.set m key) from by simp [ints, List.map_set]] at s1
    have oD3 := own_setCell oD (p := ⟨gK, m, none⟩) (by intro e; exact hgg (Option.some.inj e).symm) (.int .i64 key)
    have oK3 := s1.1
    have hb3 := Below.setCell hB2 (p := ⟨gK, m, none⟩) (by simp; omega) (.int .i64 key)
    have hT3 := hT2.far (p := ⟨gK, m, none⟩) (by simp; omega) (.int .i64 key)
    have hR3 := hR2.far (p := ⟨gK, m, none⟩) (by simp; omega) (.int .i64 key)
    have N1 : gK ≠ w.heap.size := by omega
    have N2 : w.heap.size ≠ gK := by omega
    have N3 : gD ≠ w.heap.size := by omega
    have N4 : w.heap.size ≠ gD := by omega
    have N5 : gD ≠ gK := by omega
    have OK3 := Lib.hid oK3; have OD3 := Lib.hid oD3; have HB3 := Lib.hid hb3; have HT3 := Lib.hid hT3; have HR3 := Lib.hid hR3
    clear s1 oK3 oD3 hb3 hT3 hR3 hT2 hR2 hoK2 oD oK gD1
    go_upto_region 7 with fail
    clear t0 t1 t2 t3 htl qK fK
    generalize w2.setCell ⟨gK, m, none⟩ (.int .i64 key) = w5 at *
    obtain ⟨t0, t1, t2, t3⟩ := HT3.out.four
    have htl := HT3.out.lt
    have HKL : Hid ((ks.set m key).length = k) := Lib.hid (by rw [List.length_set, HK.out])
    have HDL : Hid (ds.length = k) := Lib.hid HD.out
    have hM := Lib.hid (sMake_any (some ⟨gK, 0, none⟩) (ks.set m key) dK (some ⟨gD, 0, none⟩) ds dD k w5 HKL.out HDL.out (by rw [HKL.out]; exact Reads.of_own OK3.out) (by rw [HDL.out]; exact Reads.of_own OD3.out) (by omega) hl)
    go_wp2_with fail
    rw [HMI.out]
    go_loop [10, 11] (fun n p => ∃ a b : Nat, Hid (a + plen b = plen q) ∧ plen b ≤ 1048576 ∧ a ≤ 1048576 ∧ b ≤ q ∧ n = .int .i64 (a : Nat) ∧ p = .int .i64 (b : Nat)) (fun _ p => (intOf p).toNat)
    case atStart => exact ⟨0, q, Lib.hid (by omega), by omega, by omega, Nat.le_refl _, rfl, rfl⟩
    case round =>
      obtain ⟨a, b, HAB, hpb, ha, hbm, rfl, rfl⟩ := hrel
      by_cases hb : 1 ≤ b
      · have hs := plen_step hb
        have hbI : (b : Int) > 0 := by omega
        have hbI2 : (0 : Int) < b := by omega
        have HAB2 : Hid (a + 1 + plen (b / 2) = plen q) := Lib.hid (by have := HAB.out; omega)
        have ha2 : a + 1 ≤ 1048576 := by have := HAB.out; omega
        have hpb2 : plen (b / 2) ≤ 1048576 := by omega
        clear hs
        go_wp2_with fail
        go_round
        case rel => exact ⟨a + 1, b / 2, HAB2, hpb2, ha2, by omega, by go_num, by go_num⟩
        case measure => simp [intOf]; omega
      · obtain rfl : b = 0 := by omega
        have HA : Hid (a = plen q) := Lib.hid (by have := HAB.out; rw [plen_zero] at this; omega)
        clear HAB hple hpb
        go_wp2_with fail
        refine hM.out.mono ?_
        rintro e w6 ⟨BK, eK, BD, eD, gL, rfl, hown, hb6⟩
        have hR6 := HR3.out.below_ hb6
        have hB6 := bthen HB3.out hb6
        have hbx := HB3.out.size
        have hT6 : TreeOwn w6 w.heap.size 3 4 k BK eK BD eD (some ⟨gL, 0, none⟩) k (ks.set m key) ds (loserI (ks.set m key) ds) := ⟨own_base hown.1 hbx, own_base hown.2.1 hbx, own_base hown.2.2.1 hbx, hown.2.2.2⟩
        generalize hWV : winnerV (ks.set m key) ds = W at *
        have HWV := Lib.hid hWV; clear hWV
        have hf := blk4 (a' := .slice BK k eK) (b' := .slice BD k eD) (c' := .slice (some ⟨gL, 0, none⟩) k k) (d' := .int .i64 (W : Nat)) hR6
        obtain ⟨r0, r1, r2, r3⟩ := hf.four
        have R0 := Lib.hid r0; have R1 := Lib.hid r1; have R2 := Lib.hid r2; have R3 := Lib.hid r3
        have HBF := Lib.hid (below4 hB6 (Nat.le_succ _) (.slice BK k eK) (.slice BD k eD) (.slice (some ⟨gL, 0, none⟩) k k) (.int .i64 (W : Nat)))
        have HTF := Lib.hid (TreeOwn.put4 hT6 hR6 (by decide) (by decide) (.slice BK k eK) (.slice BD k eD) (.slice (some ⟨gL, 0, none⟩) k k) (.int .i64 (W : Nat)))
        obtain ⟨z0', z1, z2, z3⟩ := hR6.four
        obtain ⟨f0, f1, f2, f3⟩ := hR6.ice
        have hlt := hR6.lt
        clear hf r0 r1 r2 r3 hM t0 t1 t2 t3 htl hT6 hown
        go_wp2_with fail
        refine bodyPost_ret (v := .tuple #[.agg #[.slice BK k eK, .slice BD k eD, .slice (some ⟨gL, 0, none⟩) k k, .int .i64 (W : Nat)], .int .i64 (a : Nat)]) (by simp [results, Try.results95, go_sem, R0.out, R1.out, R2.out, R3.out]) rfl ⟨BK, eK, BD, eD, gL, ?_, HTF.out, HBF.out⟩
        rw [HWV.out]
        exact congrArg (fun x : Nat => Ending.returned (.tuple #[.agg #[.slice BK k eK, .slice BD k eD, .slice (some ⟨gL, 0, none⟩) k k, .int .i64 (W : Nat)], .int .i64 (x : Int)])) HA.out
theorem set_same {ds : List Bool} {m : Nat} {x : Bool} (h : ds[m]? = some x) : ds.set m x = ds := by
  obtain ⟨hlt, hx⟩ := List.getElem?_eq_some_iff.1 h
  rw [← hx, List.set_getElem_self]
set_option maxRecDepth 100000 in
set_option maxHeartbeats 3200000 in
theorem sReplaceWinner_any (AK : Option Addr) (ks : List Int) (cK : Nat) (AD : Option Addr) (ds : List Bool) (cD : Nat) (AL : Option Addr) (ls : List Int) (cL : Nat) (W key : Int) (done : Bool) (w : World)
    (hx : ReadsT w w.heap.size AK ks.length AD ds.length AL ls.length ks ds ls) (hl : ks.length + ds.length + ls.length ≤ 1048576) :
    Calls Try.prog 45 #[.agg #[.slice AK ks.length cK, .slice AD ds.length cD, .slice AL ls.length cL, .int .i64 W], .int .i64 key, .bool done] w fun e w' => ∃ BK dK BD dD BL dL,
      e = .returned (.tuple #[.agg #[.slice BK (rwK ks ds ls W key done).length dK, .slice BD (rwD ks ds ls W key done).length dD, .slice BL (rwL ks ds ls W key done).length dL, .int .i64 (rwW ks ds ls W key done)], .int .i64 (rwN ks ds ls W key done), .bool (rwOk ks ds ls W key done)]) ∧
      TreeRC w' w.heap.size w'.heap.size 3 4 BK (rwK ks ds ls W key done).length dK BD (rwD ks ds ls W key done).length dD BL (rwL ks ds ls W key done).length dL (rwK ks ds ls W key done) (rwD ks ds ls W key done) (rwL ks ds ls W key done) ∧ Below w.heap.size w w' := by
  have hbA := alloc_ (alloc_ (Below.refl w.heap.size w) (.cells #[.slice AK ks.length cK, .slice AD ds.length cD, .slice AL ls.length cL, .int .i64 W] 57)) (.cells #[.slice none 0 0, .slice none 0 0, .slice none 0 0, .int .i64 0] 57)
  have hblkT := (Blk.new w 57 #[.slice AK ks.length cK, .slice AD ds.length cD, .slice AL ls.length cL, .int .i64 W]).alloc (.cells #[.slice none 0 0, .slice none 0 0, .slice none 0 0, .int .i64 0] 57)
  have hblkR := Blk.new (w.alloc (.cells #[.slice AK ks.length cK, .slice AD ds.length cD, .slice AL ls.length cL, .int .i64 W] 57)) 57 #[.slice none 0 0, .slice none 0 0, .slice none 0 0, .int .i64 0]
  rw [World.size_alloc] at hblkR
  generalize hwA : (w.alloc (.cells #[.slice AK ks.length cK, .slice AD ds.length cD, .slice AL ls.length cL, .int .i64 W] 57)).alloc (.cells #[.slice none 0 0, .slice none 0 0, .slice none 0 0, .int .i64 0] 57) = wA at *
  have HXA := Lib.hid ((hx.below hbA).more hbA.size)
  have HV := Lib.hid (l16Good_any AK ks cK AD ds cD AL ls cL W wA HXA.out hl)
  obtain ⟨t0, t1, t2, t3⟩ := hblkT.four
  have htl := hblkT.lt
  clear hx
  cases hit : itOk ks ds ls W
  case false =>
    have HO := Lib.hid (show rwOk ks ds ls W key done = false by simp [rwOk, hit])
    rw [show rwK ks ds ls W key done = [] from by simp [rwK, HO.out], show rwD ks ds ls W key done = [] from by simp [rwD, HO.out], show rwL ks ds ls W key done = [] from by simp [rwL, HO.out], show rwW ks ds ls W key done = 0 from by simp [rwW, HO.out], show rwN ks ds ls W key done = 0 from by simp [rwN, HO.out], HO.out]
    have HIT := Lib.hid hit; clear hit
    go_enter Try.func45, Try.ntmps45
    go_upto_region 2 with (go_at_call 94; refine HV.out.mono ?_; rintro e w1 ⟨rfl, hb1⟩; rw [HIT.out])
    have hblk1 := hblkR.below_ hb1
    have hb5 := blk4 (a' := .slice none 0 0) (b' := .slice none 0 0) (c' := .slice none 0 0) (d' := .int .i64 0) hblk1
    obtain ⟨r0, r1, r2, r3⟩ := hb5.four
    have R0 := Lib.hid r0; have R1 := Lib.hid r1; have R2 := Lib.hid r2; have R3 := Lib.hid r3
    have HBF := Lib.hid (below4 (bthen hbA hb1) (Nat.le_succ _) (.slice none 0 0) (.slice none 0 0) (.slice none 0 0) (.int .i64 0))
    obtain ⟨z0', z1, z2, z3⟩ := hblk1.four
    obtain ⟨f0, f1, f2, f3⟩ := hblk1.ice
    have hlt := hblk1.lt
    clear hb5 r0 r1 r2 r3
    go_wp2_with fail
    exact bodyPost_ret (v := .tuple #[.agg #[.slice none 0 0, .slice none 0 0, .slice none 0 0, .int .i64 0], .int .i64 0, .bool false]) (by simp [results, Try.results45, go_sem, R0.out, R1.out, R2.out, R3.out]) rfl ⟨none, 0, none, 0, none, 0, rfl, TreeRC.nil _ _ _ _, HBF.out⟩
  case true =>
    obtain ⟨q1, q2, hd, hll, hW⟩ := it_parts hit
    have hm := winnerV_lt (ks := ks) (ds := ds) q1
    obtain ⟨m, hme⟩ : ∃ m, winnerV ks ds = m := ⟨_, rfl⟩
    obtain ⟨k, hk⟩ : ∃ k, ks.length = k := ⟨_, rfl⟩
    rw [hme] at hW hm
    rw [hk] at hm hd hll q1 q2
    subst hW
    simp only [hd, hll, hk] at HV hwA hblkT t0 t1 t2 hl
    simp only [hd, hll, hk]
    have HRK : Hid (Reads wA wA.heap.size 1 AK ks.length (ints ks)) := Lib.hid HXA.out.1
    have HRD : Hid (Reads wA wA.heap.size 1 AD ds.length (bools ds)) := Lib.hid HXA.out.2.1
    obtain ⟨ad, rfl, -, -⟩ := HRD.out.tv (k := m) (by omega)
    have HIT := Lib.hid hit
    have HK := Lib.hid hk; have HD := Lib.hid hd; have HM := Lib.hid hme
    have HRO : ∀ b, rwOk ks ds ls (m : Nat) key b = (!(ds[m]?.getD false) && (b || keyB key)) := by intro b; rw [rwOk, hit, hme]; rfl
    have HRO := Lib.hid (HRO done)
    have mI : (m : Int) < k := by omega
    clear hit hk hd hll hme HXA
    obtain ⟨x, hx⟩ : ∃ x, ds[m]'(by have := HD.out; omega) = x := ⟨_, rfl⟩
    have HDX := Lib.hid hx
    have HDX0 : Hid (ds[m]? = some x) := Lib.hid (by rw [List.getElem?_eq_getElem (by have := HD.out; omega), hx])
    clear hx
    cases x
    case true =>
      have HO := Lib.hid (show rwOk ks ds ls (m : Nat) key done = false by rw [HRO.out]; simp [HDX0.out])
      rw [show rwK ks ds ls (m : Nat) key done = [] from by simp [rwK, HO.out], show rwD ks ds ls (m : Nat) key done = [] from by simp [rwD, HO.out], show rwL ks ds ls (m : Nat) key done = [] from by simp [rwL, HO.out], show rwW ks ds ls (m : Nat) key done = 0 from by simp [rwW, HO.out], show rwN ks ds ls (m : Nat) key done = 0 from by simp [rwN, HO.out], HO.out]
      go_enter Try.func45, Try.ntmps45
      go_upto_region 2 with (first | (go_at_call 94; refine HV.out.mono ?_; rintro e w1 ⟨rfl, hb1⟩; rw [HIT.out]; obtain ⟨t0, t1, t2, t3⟩ := (hblkT.below_ hb1).four; have htl := (hblkT.below_ hb1).lt; obtain ⟨ad2, hE, -, hcD⟩ := Reads.tv (k := m) (Reads.below HRD.out hb1) (by have := HD.out; omega); cases hE; rw [HDX.out] at hcD))
      have hblk1 := hblkR.below_ hb1
      have hb5 := blk4 (a' := .slice none 0 0) (b' := .slice none 0 0) (c' := .slice none 0 0) (d' := .int .i64 0) hblk1
      obtain ⟨r0, r1, r2, r3⟩ := hb5.four
      have R0 := Lib.hid r0; have R1 := Lib.hid r1; have R2 := Lib.hid r2; have R3 := Lib.hid r3
      have HBF := Lib.hid (below4 (bthen hbA hb1) (Nat.le_succ _) (.slice none 0 0) (.slice none 0 0) (.slice none 0 0) (.int .i64 0))
      obtain ⟨z0', z1, z2, z3⟩ := hblk1.four
      obtain ⟨f0, f1, f2, f3⟩ := hblk1.ice
      have hlt := hblk1.lt
      clear hb5 r0 r1 r2 r3
      go_wp2_with fail
      exact bodyPost_ret (v := .tuple #[.agg #[.slice none 0 0, .slice none 0 0, .slice none 0 0, .int .i64 0], .int .i64 0, .bool false]) (by simp [results, Try.results45, go_sem, R0.out, R1.out, R2.out, R3.out]) rfl ⟨none, 0, none, 0, none, 0, rfl, TreeRC.nil _ _ _ _, HBF.out⟩
    case false =>
      cases done
      case true =>
        have HO := Lib.hid (show rwOk ks ds ls (m : Nat) key true = true by rw [HRO.out]; simp [HDX0.out])
        have HKs : Hid (rwKs ks ds key true = (ks.set m 0)) := Lib.hid (by simp [rwKs, HM.out])
        have HDs : Hid (rwDs ks ds true = (ds.set m true)) := Lib.hid (by rw [rwDs, HM.out]; first | done | exact set_same HDX0.out)
        have HK4 : Hid (rwK ks ds ls (m : Nat) key true = (ks.set m 0)) := Lib.hid (by simp [rwK, HO.out, HKs.out])
        have HD4 : Hid (rwD ks ds ls (m : Nat) key true = (ds.set m true)) := Lib.hid (by simp [rwD, HO.out, HDs.out])
        have HL4 : Hid (rwL ks ds ls (m : Nat) key true = loserI (ks.set m 0) (ds.set m true)) := Lib.hid (by simp [rwL, HO.out, HKs.out, HDs.out])
        have HW4 : Hid (rwW ks ds ls (m : Nat) key true = (winnerV (ks.set m 0) (ds.set m true) : Nat)) := Lib.hid (by simp [rwW, HO.out, HKs.out, HDs.out])
        have HN4 : Hid (rwN ks ds ls (m : Nat) key true = (plen ((k + m) / 2) : Nat)) := Lib.hid (by simp [rwN, HO.out, HM.out, HK.out])
        have hT0 := fun (w1 : World) (hb1 : Below wA.heap.size wA w1) => l16Replace_any AK ks cK (some ad) ds cD AL cL k m key true w1 HK.out HD.out ((HRK.out.below hb1).more hb1.size) ((HRD.out.below hb1).more hb1.size) (by omega) (by omega)
        simp only [if_true] at hT0
        have HT0 := Lib.hid hT0; clear hT0
        go_enter Try.func45, Try.ntmps45
        go_upto_region 3 with (first | (go_at_call 94; refine HV.out.mono ?_; rintro e w1 ⟨rfl, hb1⟩; rw [HIT.out]; obtain ⟨t0, t1, t2, t3⟩ := (hblkT.below_ hb1).four; have htl := (hblkT.below_ hb1).lt; obtain ⟨ad2, hE, -, hcD⟩ := Reads.tv (k := m) (Reads.below HRD.out hb1) (by have := HD.out; omega); cases hE; rw [HDX.out] at hcD))
        have hB1 := bthen hbA hb1
        have hblkR1 := hblkR.below_ hb1
        clear hcD
        go_wp2_with fail
        refine (HT0.out w1 hb1).mono ?_
        rintro e w3 ⟨BK, dK, BD, dD, gL, rfl, hown, hb3⟩
        have hB3 := bthen hB1 hb3
        have hbx := hB1.size
        have hTO : TreeOwn w3 w.heap.size 3 4 k BK dK BD dD (some ⟨gL, 0, none⟩) k (ks.set m 0) (ds.set m true) (loserI (ks.set m 0) (ds.set m true)) := ⟨own_base hown.1 hbx, own_base hown.2.1 hbx, own_base hown.2.2.1 hbx, hown.2.2.2⟩
        generalize hWV : winnerV (ks.set m 0) (ds.set m true) = W at *
        have HWV := Lib.hid hWV; clear hWV
        generalize hPL : plen ((k + m) / 2) = pn at *
        have HPL := Lib.hid hPL; clear hPL
        have hb4 := alloc_ hB3 (.cells #[.slice BK k dK, .slice BD k dD, .slice (some ⟨gL, 0, none⟩) k k, .int .i64 (W : Nat)] 57)
        have hTO4 : TreeOwn (w3.alloc (.cells #[.slice BK k dK, .slice BD k dD, .slice (some ⟨gL, 0, none⟩) k k, .int .i64 (W : Nat)] 57)) w.heap.size 3 4 k BK dK BD dD (some ⟨gL, 0, none⟩) k (ks.set m 0) (ds.set m true) (loserI (ks.set m 0) (ds.set m true)) := ⟨World.ownsRow.alloc hTO.1 _, World.ownsRow.alloc hTO.2.1 _, World.ownsRow.alloc hTO.2.2.1 _, hTO.2.2.2⟩
        have hT3 := TreeRC.of_own (base' := w.heap.size) hTO4 (Nat.le_refl _)
        have hR4 := (hblkR1.below_ hb3).alloc (.cells #[.slice BK k dK, .slice BD k dD, .slice (some ⟨gL, 0, none⟩) k k, .int .i64 (W : Nat)] 57)
        have hbp := Blk.new w3 57 #[.slice BK k dK, .slice BD k dD, .slice (some ⟨gL, 0, none⟩) k k, .int .i64 (W : Nat)]
        have hb6 := blk4 (a' := .slice BK k dK) (b' := .slice BD k dD) (c' := .slice (some ⟨gL, 0, none⟩) k k) (d' := .int .i64 (W : Nat)) hR4
        obtain ⟨r0, r1, r2, r3⟩ := hb6.four
        have R0 := Lib.hid r0; have R1 := Lib.hid r1; have R2 := Lib.hid r2; have R3 := Lib.hid r3
        have HBF := Lib.hid (below4 hb4 (Nat.le_succ _) (.slice BK k dK) (.slice BD k dD) (.slice (some ⟨gL, 0, none⟩) k k) (.int .i64 (W : Nat)))
        have HTF := Lib.hid (hT3.put4 hR4 (by decide) (by decide) (.slice BK k dK) (.slice BD k dD) (.slice (some ⟨gL, 0, none⟩) k k) (.int .i64 (W : Nat)))
        obtain ⟨z0', z1, z2, z3⟩ := hR4.four
        obtain ⟨f0, f1, f2, f3⟩ := hR4.ice
        have hlt := hR4.lt
        obtain ⟨p0, p1, p2, p3⟩ := hbp.four
        have pl := hbp.lt
        have HKl : Hid ((ks.set m 0).length = k) := Lib.hid (by rw [List.length_set, HK.out])
        have HDl : Hid ((ds.set m true).length = k) := Lib.hid (by first | exact HD.out | rw [List.length_set, HD.out])
        have HLl : Hid ((loserI (ks.set m 0) (ds.set m true)).length = k) := Lib.hid (by rw [loserI_len, List.length_set, HK.out])
        clear hb6 r0 r1 r2 r3 hbp hR4 hT3 hTO4 hTO hown
        go_wp2_with fail
        refine bodyPost_ret (v := .tuple #[.agg #[.slice BK k dK, .slice BD k dD, .slice (some ⟨gL, 0, none⟩) k k, .int .i64 (W : Nat)], .int .i64 (pn : Nat), .bool true]) (by simp [results, Try.results45, go_sem, R0.out, R1.out, R2.out, R3.out]) rfl ⟨BK, dK, BD, dD, some ⟨gL, 0, none⟩, k, ?_, ?_, HBF.out⟩
        · rw [HK4.out, HD4.out, HL4.out, HW4.out, HN4.out, HO.out, HKl.out, HDl.out, HLl.out]
        · rw [HK4.out, HD4.out, HL4.out, HKl.out, HDl.out, HLl.out]
          exact HTF.out.grownC
      case false =>
        cases hkey : keyB key
        case false =>
          have HKEY := Lib.hid hkey; clear hkey
          have HO := Lib.hid (show rwOk ks ds ls (m : Nat) key false = false by rw [HRO.out]; simp [HDX0.out, HKEY.out])
          rw [show rwK ks ds ls (m : Nat) key false = [] from by simp [rwK, HO.out], show rwD ks ds ls (m : Nat) key false = [] from by simp [rwD, HO.out], show rwL ks ds ls (m : Nat) key false = [] from by simp [rwL, HO.out], show rwW ks ds ls (m : Nat) key false = 0 from by simp [rwW, HO.out], show rwN ks ds ls (m : Nat) key false = 0 from by simp [rwN, HO.out], HO.out]
          go_enter Try.func45, Try.ntmps45
          go_upto_region 2 with (first | (go_at_call 94; refine HV.out.mono ?_; rintro e w1 ⟨rfl, hb1⟩; rw [HIT.out]; obtain ⟨t0, t1, t2, t3⟩ := (hblkT.below_ hb1).four; have htl := (hblkT.below_ hb1).lt; obtain ⟨ad2, hE, -, hcD⟩ := Reads.tv (k := m) (Reads.below HRD.out hb1) (by have := HD.out; omega); cases hE; rw [HDX.out] at hcD) | (go_at_call 62; refine (l1In_any _ _ _ _).mono ?_; rintro e w' ⟨rfl, rfl⟩; rw [show inB key (-100000) 100000 = false from HKEY.out]))
          have hblk1 := hblkR.below_ hb1
          have hb5 := blk4 (a' := .slice none 0 0) (b' := .slice none 0 0) (c' := .slice none 0 0) (d' := .int .i64 0) hblk1
          obtain ⟨r0, r1, r2, r3⟩ := hb5.four
          have R0 := Lib.hid r0; have R1 := Lib.hid r1; have R2 := Lib.hid r2; have R3 := Lib.hid r3
          have HBF := Lib.hid (below4 (bthen hbA hb1) (Nat.le_succ _) (.slice none 0 0) (.slice none 0 0) (.slice none 0 0) (.int .i64 0))
          obtain ⟨z0', z1, z2, z3⟩ := hblk1.four
          obtain ⟨f0, f1, f2, f3⟩ := hblk1.ice
          have hlt := hblk1.lt
          clear hb5 r0 r1 r2 r3
          go_wp2_with fail
          exact bodyPost_ret (v := .tuple #[.agg #[.slice none 0 0, .slice none 0 0, .slice none 0 0, .int .i64 0], .int .i64 0, .bool false]) (by simp [results, Try.results45, go_sem, R0.out, R1.out, R2.out, R3.out]) rfl ⟨none, 0, none, 0, none, 0, rfl, TreeRC.nil _ _ _ _, HBF.out⟩
        case true =>
          have HKEY := Lib.hid hkey; clear hkey
          have HO := Lib.hid (show rwOk ks ds ls (m : Nat) key false = true by rw [HRO.out]; simp [HDX0.out, HKEY.out])
          have HKs : Hid (rwKs ks ds key false = (ks.set m key)) := Lib.hid (by simp [rwKs, HM.out])
          have HDs : Hid (rwDs ks ds false = ds) := Lib.hid (by rw [rwDs, HM.out]; first | done | exact set_same HDX0.out)
          have HK4 : Hid (rwK ks ds ls (m : Nat) key false = (ks.set m key)) := Lib.hid (by simp [rwK, HO.out, HKs.out])
          have HD4 : Hid (rwD ks ds ls (m : Nat) key false = ds) := Lib.hid (by simp [rwD, HO.out, HDs.out])
          have HL4 : Hid (rwL ks ds ls (m : Nat) key false = loserI (ks.set m key) ds) := Lib.hid (by simp [rwL, HO.out, HKs.out, HDs.out])
          have HW4 : Hid (rwW ks ds ls (m : Nat) key false = (winnerV (ks.set m key) ds : Nat)) := Lib.hid (by simp [rwW, HO.out, HKs.out, HDs.out])
          have HN4 : Hid (rwN ks ds ls (m : Nat) key false = (plen ((k + m) / 2) : Nat)) := Lib.hid (by simp [rwN, HO.out, HM.out, HK.out])
          have hT0 := fun (w1 : World) (hb1 : Below wA.heap.size wA w1) => l16Replace_any AK ks cK (some ad) ds cD AL cL k m key false w1 HK.out HD.out ((HRK.out.below hb1).more hb1.size) ((HRD.out.below hb1).more hb1.size) (by omega) (by omega)
          simp only [if_false, Bool.false_eq_true] at hT0
          have HT0 := Lib.hid hT0; clear hT0
          go_enter Try.func45, Try.ntmps45
          go_upto_region 3 with (first | (go_at_call 94; refine HV.out.mono ?_; rintro e w1 ⟨rfl, hb1⟩; rw [HIT.out]; obtain ⟨t0, t1, t2, t3⟩ := (hblkT.below_ hb1).four; have htl := (hblkT.below_ hb1).lt; obtain ⟨ad2, hE, -, hcD⟩ := Reads.tv (k := m) (Reads.below HRD.out hb1) (by have := HD.out; omega); cases hE; rw [HDX.out] at hcD) | (go_at_call 62; refine (l1In_any _ _ _ _).mono ?_; rintro e w' ⟨rfl, rfl⟩; rw [show inB key (-100000) 100000 = true from HKEY.out]))
          have hB1 := bthen hbA hb1
          have hblkR1 := hblkR.below_ hb1
          clear hcD
          go_wp2_with fail
          refine (HT0.out w1 hb1).mono ?_
          rintro e w3 ⟨BK, dK, BD, dD, gL, rfl, hown, hb3⟩
          have hB3 := bthen hB1 hb3
          have hbx := hB1.size
          have hTO : TreeOwn w3 w.heap.size 3 4 k BK dK BD dD (some ⟨gL, 0, none⟩) k (ks.set m key) ds (loserI (ks.set m key) ds) := ⟨own_base hown.1 hbx, own_base hown.2.1 hbx, own_base hown.2.2.1 hbx, hown.2.2.2⟩
          generalize hWV : winnerV (ks.set m key) ds = W at *
          have HWV := Lib.hid hWV; clear hWV
          generalize hPL : plen ((k + m) / 2) = pn at *
          have HPL := Lib.hid hPL; clear hPL
          have hb4 := alloc_ hB3 (.cells #[.slice BK k dK, .slice BD k dD, .slice (some ⟨gL, 0, none⟩) k k, .int .i64 (W : Nat)] 57)
          have hTO4 : TreeOwn (w3.alloc (.cells #[.slice BK k dK, .slice BD k dD, .slice (some ⟨gL, 0, none⟩) k k, .int .i64 (W : Nat)] 57)) w.heap.size 3 4 k BK dK BD dD (some ⟨gL, 0, none⟩) k (ks.set m key) ds (loserI (ks.set m key) ds) := ⟨World.ownsRow.alloc hTO.1 _, World.ownsRow.alloc hTO.2.1 _, World.ownsRow.alloc hTO.2.2.1 _, hTO.2.2.2⟩
          have hT3 := TreeRC.of_own (base' := w.heap.size) hTO4 (Nat.le_refl _)
          have hR4 := (hblkR1.below_ hb3).alloc (.cells #[.slice BK k dK, .slice BD k dD, .slice (some ⟨gL, 0, none⟩) k k, .int .i64 (W : Nat)] 57)
          have hbp := Blk.new w3 57 #[.slice BK k dK, .slice BD k dD, .slice (some ⟨gL, 0, none⟩) k k, .int .i64 (W : Nat)]
          have hb6 := blk4 (a' := .slice BK k dK) (b' := .slice BD k dD) (c' := .slice (some ⟨gL, 0, none⟩) k k) (d' := .int .i64 (W : Nat)) hR4
          obtain ⟨r0, r1, r2, r3⟩ := hb6.four
          have R0 := Lib.hid r0; have R1 := Lib.hid r1; have R2 := Lib.hid r2; have R3 := Lib.hid r3
          have HBF := Lib.hid (below4 hb4 (Nat.le_succ _) (.slice BK k dK) (.slice BD k dD) (.slice (some ⟨gL, 0, none⟩) k k) (.int .i64 (W : Nat)))
          have HTF := Lib.hid (hT3.put4 hR4 (by decide) (by decide) (.slice BK k dK) (.slice BD k dD) (.slice (some ⟨gL, 0, none⟩) k k) (.int .i64 (W : Nat)))
          obtain ⟨z0', z1, z2, z3⟩ := hR4.four
          obtain ⟨f0, f1, f2, f3⟩ := hR4.ice
          have hlt := hR4.lt
          obtain ⟨p0, p1, p2, p3⟩ := hbp.four
          have pl := hbp.lt
          have HKl : Hid ((ks.set m key).length = k) := Lib.hid (by rw [List.length_set, HK.out])
          have HDl : Hid (ds.length = k) := Lib.hid (by first | exact HD.out | rw [List.length_set, HD.out])
          have HLl : Hid ((loserI (ks.set m key) ds).length = k) := Lib.hid (by rw [loserI_len, List.length_set, HK.out])
          clear hb6 r0 r1 r2 r3 hbp hR4 hT3 hTO4 hTO hown
          go_wp2_with fail
          refine bodyPost_ret (v := .tuple #[.agg #[.slice BK k dK, .slice BD k dD, .slice (some ⟨gL, 0, none⟩) k k, .int .i64 (W : Nat)], .int .i64 (pn : Nat), .bool true]) (by simp [results, Try.results45, go_sem, R0.out, R1.out, R2.out, R3.out]) rfl ⟨BK, dK, BD, dD, some ⟨gL, 0, none⟩, k, ?_, ?_, HBF.out⟩
          · rw [HK4.out, HD4.out, HL4.out, HW4.out, HN4.out, HO.out, HKl.out, HDl.out, HLl.out]
          · rw [HK4.out, HD4.out, HL4.out, HKl.out, HDl.out, HLl.out]
            exact HTF.out.grownC
end Go.Proofs.Yteigceeghnphmaa
