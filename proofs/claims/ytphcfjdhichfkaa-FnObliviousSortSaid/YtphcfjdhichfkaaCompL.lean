/- The walk of the law on compaction. -/
import Derived.Test.YtphcfjdhichfkaaCompM
import Derived.Deep.DeepCutAuto
namespace Go.Proofs.Ytphcfjdhichfkaa
open Go.RowKit
set_option linter.unusedVariables false
theorem own_cap {w : World} {base : Nat} {e : TypeId} {size n c : Nat} {A : Option Addr} {xs : List Value} (h : w.ownsRow base e size (.slice A n c) n xs) : n ≤ c := by
  by_cases hn : n = 0
  · omega
  · obtain ⟨g, c', e', _, _, h1, _⟩ := own_some h (by omega)
    cases e'
    exact h1
theorem Reads.pre {w : World} {B n m : Nat} {A : Option Addr} {xs : List Value} (h : Reads w B 1 A n xs) (hm : m ≤ n) : Reads w B 1 A m (xs.take m) := by
  refine ⟨by rw [List.length_take, h.1]; omega, fun h0 => ?_⟩
  obtain ⟨ad, e, hb, hc⟩ := h.2 (by omega)
  refine ⟨ad, e, hb, fun j u hu => hc j u ?_⟩
  rw [List.getElem?_take] at hu
  split at hu
  · exact hu
  · cases hu
set_option maxRecDepth 100000 in
set_option maxHeartbeats 6400000 in
theorem FnCompaction_any (A : Option Addr) (bs : List Nat) (c : Nat) (w : World) (hr : Reads w w.heap.size 1 A bs.length (byts bs)) (hm : bs.length ≤ maxLen) (hbb : ∀ b ∈ bs, b ≤ 255) :
    Calls Try.prog 3 #[.slice A bs.length c] w fun e w' => e = .returned (.bool true) ∧ Below w.heap.size w w' := by
  have HVB := Lib.hid (fun w => vBig_any A bs.length c w hm)
  by_cases hbig : 65536 < bs.length
  case pos =>
    have HB := Lib.hid (show decide (65536 < bs.length) = true by simpa using hbig)
    clear hbig
    go_enter Try.func3, Try.ntmps3
    go_wp2_with (go_at_call 9; refine (HVB.out _).mono ?_; rintro e w' ⟨rfl, rfl⟩; rw [HB.out])
    go_ret
    exact ⟨rfl, Below.refl _ _⟩
  have hsm : bs.length ≤ 65536 := by omega
  have HB := Lib.hid (show decide (65536 < bs.length) = false by simpa using hbig)
  clear hbig
  obtain ⟨i0, hi, hz0, hz1, hz2⟩ := info_parts (show (Try.prog.info? 3).map (fun i => (i.zero, i.size, i.bytes)) = some (some (.int .i64 0), 1, 8) by kernel_rfl)
  obtain ⟨i1, hj, hy0, hy1, hy2⟩ := info_parts (show (Try.prog.info? 4).map (fun i => (i.zero, i.size, i.bytes)) = some (some (.bool false), 1, 1) by kernel_rfl)
  have HVL := Lib.hid (vList_any A bs c w hr hbb hsm)
  have HR := Lib.hid hr; have HBY := Lib.hid hbb
  clear hr hbb
  go_enter Try.func3, Try.ntmps3
  go_wp2_with (go_at_call 9; refine (HVB.out _).mono ?_; rintro e w' ⟨rfl, rfl⟩; rw [HB.out])
  refine HVL.out.mono ?_
  rintro e w1 ⟨v, zs, rfl, oZ, hv, hb1⟩
  obtain ⟨AZ, CZ, rfl⟩ := own_slice oZ
  have h64 := vList_len hv
  have HV := Lib.hid hv; clear hv
  have hB0 := alloc_ (alloc_ (alloc_ (Below.refl w1.heap.size w1) (.cells #[] 4)) (.cells #[] 3)) (.cells #[] 3)
  have h40 := World.ownsRow.alloc (World.ownsRow.alloc (made_at (w := w1) (base := w1.heap.size) (g := w1.heap.size) (size := 1) (e := 4) (Nat.le_refl _) rfl) (.cells #[] 3)) (.cells #[] 3)
  have h50 := World.ownsRow.alloc (made_at (w := w1.alloc (.cells #[] 4)) (base := w1.heap.size) (g := w1.heap.size + 1) (size := 1) (e := 3) (by simp) (by simp)) (.cells #[] 3)
  have h60 := made_at (w := (w1.alloc (.cells #[] 4)).alloc (.cells #[] 3)) (base := w1.heap.size) (g := w1.heap.size + 2) (size := 1) (e := 3) (by simp; omega) (by simp)
  go_wp2_with fail
  go_loopw [4, 5, 6, 7] (fun v4 v5 v6 vi wr => ∃ (k : Nat) (A4 : Option Addr) (c4 g5 c5 g6 c6 : Nat) (P Q : List Int), k ≤ zs.length ∧ vi = .int .i64 (k : Nat) ∧ v4 = .slice A4 k c4 ∧ v5 = .slice (some ⟨g5, 0, none⟩) P.length c5 ∧ v6 = .slice (some ⟨g6, 0, none⟩) Q.length c6 ∧
      Hid (P = posK (kaL bs k) k) ∧ Hid (Q = picked zs (kaL bs k) k) ∧ g5 ≠ g6 ∧ wr.ownsRow w1.heap.size 4 1 (.slice A4 k c4) k (bools (kaL bs k)) ∧ wr.ownsRow w1.heap.size 3 1 (.slice (some ⟨g5, 0, none⟩) P.length c5) P.length (ints P) ∧
      wr.ownsRow w1.heap.size 3 1 (.slice (some ⟨g6, 0, none⟩) Q.length c6) Q.length (ints Q) ∧ Below w1.heap.size w1 wr) (fun _ _ _ vi _ => zs.length - (intOf vi).toNat)
  case atStart => exact ⟨0, _, 0, _, 0, _, 0, [], [], by omega, rfl, rfl, rfl, rfl, Lib.hid rfl, Lib.hid (by simp [picked]), by omega, h40, h50, h60, hB0⟩
  case round =>
    clear hB0 h40 h50 h60
    obtain ⟨k, A4, c4, g5, c5, g6, c6, P, Q, hk, rfl, rfl, rfl, rfl, HP, HQ, h56, o4, o5, o6, hb⟩ := hrel
    by_cases hlt : k < zs.length
    · have hPl : P.length ≤ 64 := by rw [HP.out]; exact Nat.le_trans (pos_len_le _ _) (by omega)
      have hQl : Q.length ≤ 64 := by rw [HQ.out]; exact Nat.le_trans (picked_len _ _ _) (by omega)
      obtain ⟨gZ, CZ', eZ, -, -, -⟩ := own_some oZ (by omega)
      cases eZ
      have hxb := atV_lt HBY.out (k + 3)
      have hAT : Calls Try.prog 11 #[.slice A bs.length c, .int .i64 ((k : Int) + 3)] wr fun e w' => e = .returned (.int .i64 (atV bs (k + 3) : Nat)) ∧ wr = w' :=
        vAt_any A bs c (k + 3) wr (by have h := (HR.out.below hb1); exact (h.below (hb.mono hb1.size)).more (Nat.le_trans hb1.size hb.size)) HBY.out hsm (by omega)
      obtain ⟨x, hx⟩ : ∃ x, atV bs (k + 3) = x := ⟨_, rfl⟩
      rw [hx] at hxb
      have HX := Lib.hid hx; have HAT := Lib.hid hAT
      clear hx hAT
      obtain ⟨y, hy⟩ : ∃ y, zs[k] = y := ⟨_, rfl⟩
      have HY := Lib.hid hy
      clear hy
      have kI : (k : Int) < zs.length := by omega
      by_cases hx1 : x % 2 = 1
      · have HKA := Lib.hid (show kaL bs (k + 1) = kaL bs k ++ [true] by rw [kaL_succ, HX.out]; congr 2; simp [hx1])
        have HPS := Lib.hid (show posK (kaL bs (k + 1)) (k + 1) = P ++ [(k : Int)] by rw [HKA.out, posK_pre _ (kaL_len bs k), HP.out]; rfl)
        have HQS := Lib.hid (show picked zs (kaL bs (k + 1)) (k + 1) = Q ++ [y] by rw [HKA.out, kept_pre _ hlt (kaL_len bs k), HQ.out, HY.out]; rfl)
        have e1 : ((x : Int) % 2 == 1) = true := by rw [beq_iff_eq]; omega
        clear hx1
        go_upto_region 11 with (first | (go_at_call 11; refine HAT.out.mono ?_; rintro e w' ⟨rfl, rfl⟩; rw [HX.out]) | (at_builtin; refine wpList_push' _ rfl (.tmp 32) (.tmp 39) 26 rfl w1.heap.size 4 i1 _ 1 1 Try.underlying26 hj hy0 hy1 hy2 rfl (by decide) (.slice A4 k c4) k _ rfl (World.ownsRow.alloc o4 _) #[.bool true] wr.heap.size rfl (Blk.new _ _ _) rfl (by simp [Value.oneCell']) (by omega) (by unfold maxLen; omega) (by rw [World.size_alloc]; have := (hb).size; omega) ?_; intro g4 d4 w4 p4 gr4 bl4 at4))
        have o54 := World.ownsRow.kept (World.ownsRow.alloc o5 (.cells #[.bool true] 4)) gr4 (own_ne_type (World.ownsRow.alloc o5 (.cells #[.bool true] 4)) (World.ownsRow.alloc o4 (.cells #[.bool true] 4)) (by decide))
        have o64 := World.ownsRow.kept (World.ownsRow.alloc o6 (.cells #[.bool true] 4)) gr4 (own_ne_type (World.ownsRow.alloc o6 (.cells #[.bool true] 4)) (World.ownsRow.alloc o4 (.cells #[.bool true] 4)) (by decide))
        have hb4 := (alloc_ hb (.cells #[.bool true] 4)).trans bl4
        have p4' : w4.ownsRow w1.heap.size 4 1 (.slice (some ⟨g4, 0, none⟩) (k + 1) d4) (k + 1) (bools (kaL bs (k + 1))) := by rw [HKA.out]; simpa [bools] using p4
        have P4 := Lib.hid p4'
        have c4 := p4'.cellAt k (by omega)
        rw [bools_get (by rw [kaL_len]; omega)] at c4
        simp only [HKA.out, List.getElem_append_right (show (kaL bs k).length ≤ k by rw [kaL_len]; omega), kaL_len, Nat.sub_self, List.getElem_cons_zero] at c4
        have k1I : (k : Int) < (k : Int) + 1 := by omega
        clear p4 p4' gr4 bl4 at4 o4 o5 o6 hb
        go_upto_region 13 with (at_builtin; refine wpList_push' _ rfl (.tmp 45) (.tmp 47) 24 rfl w1.heap.size 3 i0 _ 1 8 Try.underlying24 hi hz0 hz1 hz2 rfl (by decide) (.slice (some ⟨g5, 0, none⟩) P.length c5) P.length _ rfl (World.ownsRow.alloc o54 _) #[.int .i64 (k : Nat)] w4.heap.size rfl (Blk.new _ _ _) rfl (by simp [Value.oneCell']) (by omega) (by unfold maxLen; omega) (by rw [World.size_alloc]; have := (hb4).size; omega) ?_; intro q5 d5 w5 p5 gr5 bl5 at5)
        have o65 := World.ownsRow.kept (World.ownsRow.alloc o64 (.cells #[.int .i64 (k : Nat)] 3)) gr5 (.inr (by intro e; exact h56 (Option.some.inj e).symm))
        have P45 := Lib.hid (World.ownsRow.kept (World.ownsRow.alloc P4.out (.cells #[.int .i64 (k : Nat)] 3)) gr5 (own_ne_type (World.ownsRow.alloc P4.out (.cells #[.int .i64 (k : Nat)] 3)) (World.ownsRow.alloc o54 (.cells #[.int .i64 (k : Nat)] 3)) (by decide)))
        have hb5 := (alloc_ hb4 (.cells #[.int .i64 (k : Nat)] 3)).trans bl5
        have s6 := own_lt o64 g6 rfl
        have n56 : q5 ≠ g6 := by
          rcases at5 with e | e
          · exact fun e2 => h56 ((Option.some.inj e).trans e2)
          · rw [World.size_alloc] at e; omega
        have cz := (own_below oZ hb5 (Nat.le_refl _)).cellAt k (by omega)
        rw [ints_get hlt, HY.out] at cz
        have P5 := Lib.hid p5
        have s5 := own_lt p5 q5 rfl
        clear p5 gr5 bl5 at5 o54 o64 hb4 c4
        go_wp2_with (at_builtin; refine wpList_push' _ rfl (.tmp 49) (.tmp 54) 24 rfl w1.heap.size 3 i0 _ 1 8 Try.underlying24 hi hz0 hz1 hz2 rfl (by decide) (.slice (some ⟨g6, 0, none⟩) Q.length c6) Q.length _ rfl (World.ownsRow.alloc o65 _) #[.int .i64 y] w5.heap.size rfl (Blk.new _ _ _) rfl (by simp [Value.oneCell']) (by omega) (by unfold maxLen; omega) (by rw [World.size_alloc]; have := (hb5).size; omega) ?_; intro q6 d6 w6 p6 gr6 bl6 at6)
        have P56 := Lib.hid (World.ownsRow.kept (World.ownsRow.alloc P5.out (.cells #[.int .i64 y] 3)) gr6 (.inr (by intro e; exact n56 (Option.some.inj e))))
        have P46 := Lib.hid (World.ownsRow.kept (World.ownsRow.alloc P45.out (.cells #[.int .i64 y] 3)) gr6 (own_ne_type (World.ownsRow.alloc P45.out (.cells #[.int .i64 y] 3)) (World.ownsRow.alloc o65 (.cells #[.int .i64 y] 3)) (by decide)))
        have hb6 := (alloc_ hb5 (.cells #[.int .i64 y] 3)).trans bl6
        have m56 : q5 ≠ q6 := by
          rcases at6 with e | e
          · exact fun e2 => n56 (e2.trans (Option.some.inj e).symm)
          · rw [World.size_alloc] at e; omega
        have P6 := Lib.hid p6
        clear p6 gr6 bl6 at6 o65 hb5 cz
        go_roundw
        case rel => exact ⟨k + 1, some ⟨g4, 0, none⟩, d4, q5, d5, q6, d6, P ++ [(k : Int)], Q ++ [y], by omega, by go_num, rfl, by rw [List.length_append]; rfl, by rw [List.length_append]; rfl, Lib.hid HPS.out.symm, Lib.hid HQS.out.symm, m56, P46.out, by have := P56.out; rw [ints_snoc] at this; rw [List.length_append]; exact this, by have := P6.out; rw [ints_snoc] at this; rw [List.length_append]; exact this, hb6⟩
        case measure => simp [intOf]; omega
      · have HKA := Lib.hid (show kaL bs (k + 1) = kaL bs k ++ [false] by rw [kaL_succ, HX.out]; congr 2; simp [hx1])
        have HPS := Lib.hid (show posK (kaL bs (k + 1)) (k + 1) = P ++ [] by rw [HKA.out, posK_pre _ (kaL_len bs k), HP.out]; rfl)
        have HQS := Lib.hid (show picked zs (kaL bs (k + 1)) (k + 1) = Q ++ [] by rw [HKA.out, kept_pre _ hlt (kaL_len bs k), HQ.out, HY.out]; rfl)
        have e1 : ((x : Int) % 2 == 1) = false := by rw [beq_eq_false_iff_ne]; omega
        clear hx1
        go_upto_region 11 with (first | (go_at_call 11; refine HAT.out.mono ?_; rintro e w' ⟨rfl, rfl⟩; rw [HX.out]) | (at_builtin; refine wpList_push' _ rfl (.tmp 32) (.tmp 39) 26 rfl w1.heap.size 4 i1 _ 1 1 Try.underlying26 hj hy0 hy1 hy2 rfl (by decide) (.slice A4 k c4) k _ rfl (World.ownsRow.alloc o4 _) #[.bool false] wr.heap.size rfl (Blk.new _ _ _) rfl (by simp [Value.oneCell']) (by omega) (by unfold maxLen; omega) (by rw [World.size_alloc]; have := (hb).size; omega) ?_; intro g4 d4 w4 p4 gr4 bl4 at4))
        have o54 := World.ownsRow.kept (World.ownsRow.alloc o5 (.cells #[.bool false] 4)) gr4 (own_ne_type (World.ownsRow.alloc o5 (.cells #[.bool false] 4)) (World.ownsRow.alloc o4 (.cells #[.bool false] 4)) (by decide))
        have o64 := World.ownsRow.kept (World.ownsRow.alloc o6 (.cells #[.bool false] 4)) gr4 (own_ne_type (World.ownsRow.alloc o6 (.cells #[.bool false] 4)) (World.ownsRow.alloc o4 (.cells #[.bool false] 4)) (by decide))
        have hb4 := (alloc_ hb (.cells #[.bool false] 4)).trans bl4
        have p4' : w4.ownsRow w1.heap.size 4 1 (.slice (some ⟨g4, 0, none⟩) (k + 1) d4) (k + 1) (bools (kaL bs (k + 1))) := by rw [HKA.out]; simpa [bools] using p4
        have P4 := Lib.hid p4'
        have c4 := p4'.cellAt k (by omega)
        rw [bools_get (by rw [kaL_len]; omega)] at c4
        simp only [HKA.out, List.getElem_append_right (show (kaL bs k).length ≤ k by rw [kaL_len]; omega), kaL_len, Nat.sub_self, List.getElem_cons_zero] at c4
        have k1I : (k : Int) < (k : Int) + 1 := by omega
        clear p4 p4' gr4 bl4 at4 o4 o5 o6 hb
        go_wp2_with fail
        go_roundw
        case rel => exact ⟨k + 1, some ⟨g4, 0, none⟩, d4, g5, c5, g6, c6, P, Q, by omega, by go_num, rfl, rfl, rfl, Lib.hid (by rw [HPS.out, List.append_nil]), Lib.hid (by rw [HQS.out, List.append_nil]), h56, P4.out, o54, o64, hb4⟩
        case measure => simp [intOf]; omega
    · obtain rfl : k = zs.length := by omega
      have HKL : Hid ((kaL bs zs.length).length = zs.length) := Lib.hid (kaL_len _ _)
      generalize kaL bs zs.length = K at *
      have hok : ocOk zs K = true := by rw [ocOk, HV.out, HKL.out]; simp
      have HOV : Hid (ocV zs K = padTo zs.length Q) := Lib.hid (by rw [ocV, if_pos hok, HQ.out])
      have HOT : Hid (ocT zs K = ctrace zs.length) := Lib.hid (by rw [ocT, if_pos hok])
      have hQn : Q.length ≤ zs.length := by rw [HQ.out]; exact picked_len _ _ _
      have hPQ : P.length = Q.length := by rw [HP.out, HQ.out]; exact pos_len zs K HKL.out _ (Nat.le_refl _)
      have HPQ := Lib.hid hPQ
      have hSl : (padTo zs.length Q).length = zs.length := padTo_len _ _ hQn
      have hTl := traceFrom_len (zs.length : Int) (by omega) 7 1 (by omega)
      have hOC := ObliviousCompact_any AZ zs CZ A4 K c4 wr (Reads.of_own (own_below oZ hb (Nat.le_refl _))) (by omega) (by rw [HKL.out]; exact Reads.of_own o4) (by rw [HKL.out]; omega)
      rw [hok, HOV.out, HOT.out, HKL.out, hSl] at hOC
      have HOC := Lib.hid hOC
      have hOE := exp_ok HV.out HKL.out
      have hEV := exp_val HV.out HKL.out
      have HSL := Lib.hid hSl
      rw [← HQ.out, ← HP.out] at hOE hEV
      obtain ⟨S, hS⟩ : ∃ S, padTo zs.length Q = S := ⟨_, rfl⟩
      have HSD : Hid (S = Q ++ List.replicate (zs.length - Q.length) 0) := Lib.hid hS.symm
      obtain ⟨T, hT⟩ : ∃ T, ctrace (zs.length : Int) = T := ⟨_, rfl⟩
      rw [hS] at HOC HSL
      rw [hT] at HOC
      have hTl2 : T.length ≤ 448 := by rw [← hT]; exact hTl
      have HTD := Lib.hid hT
      have HOE := Lib.hid hOE; have HEV := Lib.hid hEV
      have hCT := fun w => CompactionTrace_any (zs.length : Int) w
      have hct : ctraceOk (zs.length : Int) = true := inB_iff.2 (by omega)
      simp only [ctraceV, hct, if_true, hT] at hCT
      have HCT := Lib.hid hCT
      clear hok HOV HOT hSl hTl hOC hOE hEV hS hT hCT hct hPQ
      go_wp2_with fail
      refine HOC.out.mono ?_
      rintro e w3 ⟨AS, CS, AT, CT, rfl, oS, oT, hb3⟩
      have hB3 := hb.trans (hb3.mono hb.size)
      go_wp2_with fail
      refine (HCT.out _).mono ?_
      rintro e w4 ⟨AW, CW, rfl, oW, hb4⟩
      have hB4 := hB3.trans (hb4.mono hB3.size)
      have hn0 : ((zs.length : Int) != (zs.length : Int)) = false := by simp
      have hRT := rTrace_any AT AW T T CT CW w4 (Reads.of_own (own_below oT hb4 (Nat.le_refl _))) (Reads.of_own oW) (by omega) (by omega)
      rw [show decide (T = T) = true by simp] at hRT
      have HRT := Lib.hid hRT; clear hRT
      have hCS : zs.length ≤ CS := own_cap oS
      have oS4 := own_below oS hb4 (Nat.le_refl _)
      have oQ4 := own_below (own_below o6 hb3 (Nat.le_refl _)) hb4 (Nat.le_refl _)
      have hRS : ∀ n, Reads (w4.drewN n) (w4.drewN n).heap.size 1 AS Q.length (ints Q) := by
        intro n
        have h1 : Reads w4 w4.heap.size 1 AS zs.length (ints S) := Reads.of_own oS4
        have h2 := h1.pre hQn
        rwa [show (ints S).take Q.length = ints Q by rw [HSD.out]; simp [ints]] at h2
      have HVI := Lib.hid (fun n => vInts_any AS (some ⟨g6, 0, none⟩) Q Q CS c6 (w4.drewN n) (hRS n) (Reads.of_own (w := w4.drewN n) oQ4) (by omega) (by omega))
      have hQQ : decide (Q = Q) = true := by simp
      rw [hQQ] at HVI
      have hQI : (Q.length : Int) ≤ zs.length := by omega
      have hQC : (Q.length : Int) ≤ CS := by omega
      clear hRS oS4 oQ4 hQQ
      go_wp2_with (first
        | (go_at_call 14; refine HRT.out.mono ?_; rintro e w5 ⟨rfl, nd5, rfl⟩)
        | (go_at_call 15; refine (HVI.out _).mono ?_; rintro e w6 ⟨rfl, nd6, rfl⟩))
      have hb7 : Below w4.heap.size w4 (w4.drewN (nd5 + nd6)) := below_drewN (Below.refl _ _) _
      generalize w4.drewN (nd5 + nd6) = w7 at *
      have oS7 := own_below (own_below oS hb4 (Nat.le_refl _)) hb7 (Nat.le_refl _)
      have hB7 := hB4.trans (hb7.mono hB4.size)
      clear hQC hQI HRT HVI
      go_loop [13] (fun iv => ∃ q : Nat, Q.length ≤ q ∧ q ≤ zs.length ∧ iv = .int .i64 (q : Nat)) (fun iv => zs.length - (intOf iv).toNat)
      case atStart => exact ⟨Q.length, Nat.le_refl _, hQn, rfl⟩
      case round =>
        obtain ⟨q, hq1, hq2, rfl⟩ := hrel
        by_cases hqn : q < zs.length
        · obtain ⟨gS, CS', eS, -, -, -⟩ := own_some oS7 (by omega)
          cases eS
          have cS := oS7.cellAt q (by omega)
          rw [ints_get (by rw [HSL.out]; exact hqn)] at cS
          have hS0 : S[q]'(by rw [HSL.out]; exact hqn) = 0 := by
            have h1 : S[q]? = some 0 := by rw [HSD.out, List.getElem?_append_right hq1, List.getElem?_replicate, if_pos (by omega)]
            rw [List.getElem?_eq_getElem (by rw [HSL.out]; exact hqn)] at h1
            exact Option.some.inj h1
          rw [hS0] at cS
          have z0 : ((0 : Int) != 0) = false := by simp
          have qI : (q : Int) < zs.length := by omega
          clear hS0
          go_wp2_with fail
          go_round
          case rel => exact ⟨q + 1, by omega, by omega, by go_num⟩
          case measure => simp [intOf]; omega
        · obtain rfl : q = zs.length := by omega
          have oQ7 := own_below (own_below (own_below o6 hb3 (Nat.le_refl _)) hb4 (Nat.le_refl _)) hb7 (Nat.le_refl _)
          have oP7 := own_below (own_below (own_below o5 hb3 (Nat.le_refl _)) hb4 (Nat.le_refl _)) hb7 (Nat.le_refl _)
          have hOE := ObliviousExpand_any (some ⟨g6, 0, none⟩) Q c6 (some ⟨g5, 0, none⟩) P c5 (zs.length : Int) w7 (Reads.of_own oQ7) (by omega) (Reads.of_own oP7) (by have := HPQ.out; omega) (by omega)
          have hTR : oeT Q P (zs.length : Int) = T.reverse := by rw [oeT, if_pos HOE.out, HTD.out]
          obtain ⟨E, hE⟩ : ∃ E, expOut zs K zs.length zs.length = E := ⟨_, rfl⟩
          have hEl : E.length = zs.length := by rw [← hE]; simp [expOut]
          have HEG := Lib.hid (fun (j : Nat) (hj : j < zs.length) => (show E[j]? = some (if K[j]'(by rw [HKL.out]; exact hj) then zs[j] else 0) by rw [← hE]; exact expOut_get HKL.out hj))
          have HEL := Lib.hid hEl
          rw [hTR, HOE.out, HEV.out, hE, hEl] at hOE
          have HOX := Lib.hid hOE
          clear hOE hTR hE hEl oQ7 oP7
          go_wp2_with fail
          refine HOX.out.mono ?_
          rintro e w8 ⟨AE, CE, AB, CB, rfl, oE, oB, hb8⟩
          have hB8 := hB7.trans (hb8.mono hB7.size)
          have hTRl : (T.reverse.length : Int) = (T.length : Int) := by simp
          have HTRL : Hid (T.reverse.length = T.length) := Lib.hid (by simp)
          rw [HTRL.out] at oB ⊢
          have t0 : ((T.length : Int) != (T.length : Int)) = false := by simp
          have rB : Reads w8 w8.heap.size 2 AB T.reverse.length (cmps T.reverse) := by rw [HTRL.out]; exact Reads.of_own oB
          have rT : Reads w8 w8.heap.size 2 AT T.length (cmps T) := Reads.of_own (own_below (own_below (own_below oT hb4 (Nat.le_refl _)) hb7 (Nat.le_refl _)) hb8 (Nat.le_refl _))
          have HRB := Lib.hid rB; have HRT := Lib.hid rT
          clear hTRl rB rT oB
          go_wp2_with fail
          go_loopw [17] (fun iv wr => ∃ q nd : Nat, q ≤ T.length ∧ iv = .int .i64 (q : Nat) ∧ wr = w8.drewN nd) (fun iv _ => T.length - (intOf iv).toNat)
          case atStart => exact ⟨0, 0, by omega, rfl, rfl⟩
          case round =>
            obtain ⟨q, nd, hq, rfl, rfl⟩ := hrel
            by_cases hqt : q < T.length
            · obtain ⟨r, hrr⟩ : ∃ r : Nat, T.length - 1 - q = r := ⟨_, rfl⟩
              have hr1 : (T.length : Int) - 1 - (q : Int) = (r : Nat) := by omega
              have hr0 : IntKind.i64.wrap ((T.length : Int) - 1 - (q : Int)) = (r : Nat) := by rw [hr1]; exact IntWalk.i64_in _ (by omega)
              have hr2 : (r : Int) < T.length := by omega
              have qI : (q : Int) < T.length := by omega
              obtain ⟨ad, rfl, -, a0, a1⟩ := HRB.out.cmp (k := q) (by rw [HTRL.out]; exact hqt)
              obtain ⟨bd, rfl, -, d0, d1⟩ := HRT.out.cmp (k := r) (by omega)
              have heq : T.reverse[q]'(by rw [HTRL.out]; exact hqt) = T[r]'(by omega) := by rw [List.getElem_reverse]; congr 1
              rw [heq] at a0 a1
              have hq' := neq_cmp (T[r]'(by omega)) (T[r]'(by omega))
              have hg' := fun x y => guard_cmp x y (T[r]'(by omega)) (T[r]'(by omega))
              rw [show decide (T[r]'(by omega) = T[r]'(by omega)) = true by simp] at hq'
              generalize T[r]'(by omega) = tr at *
              clear heq hrr
              go_wp2_with fail
              go_quiet (fail)
              clear hr1 hr0
              go_wp2_with fail
              go_roundw
              case rel => exact ⟨q + 1, nd + nq, by omega, by go_num, rfl⟩
              case measure => simp [intOf]; omega
            · have qI : ¬ (q : Int) < T.length := by omega
              go_wp2_with fail
              obtain ⟨w9, hw9⟩ : ∃ w9, w8.drewN nd = w9 := ⟨_, rfl⟩
              have hb9 : Below w8.heap.size w8 (w8.drewN nd) := below_drewN (Below.refl _ _) _
              generalize w8.drewN nd = w9 at *
              clear hw9
              have hB9 := hB8.trans (hb9.mono hB8.size)
              have oE9 := own_below oE hb9 (Nat.le_refl _)
              have oZ9 := own_below oZ hB9 (Nat.le_refl _)
              have oK9 := own_below (own_below (own_below (own_below (own_below o4 hb3 (Nat.le_refl _)) hb4 (Nat.le_refl _)) hb7 (Nat.le_refl _)) hb8 (Nat.le_refl _)) hb9 (Nat.le_refl _)
              go_loopw [18] (fun iv wr => ∃ q nd : Nat, q ≤ zs.length ∧ iv = .int .i64 (q : Nat) ∧ wr = w9.drewN nd) (fun iv _ => zs.length - (intOf iv).toNat)
              case atStart => exact ⟨0, 0, by omega, rfl, rfl⟩
              case round =>
                obtain ⟨q, nd2, hq3, rfl, rfl⟩ := hrel
                by_cases hqz : q < zs.length
                · have rK : Reads w9 w9.heap.size 1 A4 K.length (bools K) := by rw [HKL.out]; exact Reads.of_own oK9
                  have rE : Reads w9 w9.heap.size 1 AE E.length (ints E) := by rw [HEL.out]; exact Reads.of_own oE9
                  obtain ⟨kd, rfl, -, k0⟩ := rK.tv (k := q) (by rw [HKL.out]; exact hqz)
                  obtain ⟨ed, rfl, -, e0⟩ := rE.int (k := q) (by rw [HEL.out]; exact hqz)
                  obtain ⟨zd, rfl, -, z0⟩ := (Reads.of_own oZ9).int (k := q) hqz
                  have heg := HEG.out q hqz
                  rw [List.getElem?_eq_getElem (by rw [HEL.out]; exact hqz)] at heg
                  have heg := Option.some.inj heg
                  rw [heg] at e0
                  have qI : (q : Int) < zs.length := by omega
                  generalize K[q]'(by rw [HKL.out]; exact hqz) = b at *
                  generalize zs[q] = y at *
                  have yy : (y != y) = false := by simp
                  have y0 : ((0 : Int) != 0) = false := by simp
                  clear heg rK rE
                  cases b
                  case true =>
                    simp only [if_true] at e0
                    go_wp2_with fail
                    go_quiet (fail)
                    go_wp2_with fail
                    go_roundw
                    case rel => exact ⟨q + 1, nd2 + nq, by omega, by go_num, rfl⟩
                    case measure => simp [intOf]; omega
                  case false =>
                    simp only [Bool.false_eq_true, if_false] at e0
                    go_wp2_with fail
                    go_quiet (fail)
                    go_wp2_with fail
                    go_roundw
                    case rel => exact ⟨q + 1, nd2 + nq, by omega, by go_num, rfl⟩
                    case measure => simp [intOf]; omega
                · have qI : ¬ (q : Int) < zs.length := by omega
                  go_wp2_with fail
                  go_ret
                  exact ⟨rfl, hb1.trans ((below_drewN hB9 nd2).mono hb1.size)⟩
end Go.Proofs.Ytphcfjdhichfkaa
