/- Replacement selection: the reference's side. -/
import Derived.Test.YtecbagdljgnloaaRsV
import Derived.Test.YtecbagdljgnloaaRsI
namespace Go.Proofs.Ytecbagdljgnloaa
open Go.RowKit
set_option linter.unusedVariables false
theorem rinit_kys (zs : List Int) (k : Nat) : kys (rinit zs k) = zs.take k := by simp [kys, rinit, Function.comp_def]
theorem rinit_mks {zs : List Int} {k : Nat} (h : k ≤ zs.length) : mks (rinit zs k) = List.replicate k false := by
  simp only [mks, rinit, List.map_map, Function.comp_def]
  rw [List.map_const']
  simp [Nat.min_eq_left h]
theorem bls_push (k : Nat) : bls (List.replicate k false) ++ #[Value.bool false].toList = bls (List.replicate (k + 1) false) := by simp [bls, List.replicate_succ']
def Lv2 (w : World) (A0 : Option Addr) (z0 : List Int) (m F : Nat) (vh vn va vu vc : Value) (wr : World) : Prop := ∃ (Ah : Option Addr) (n ch : Nat) (An : Option Addr) (cn a : Nat) (Au : Option Addr) (p cu : Nat) (Ac : Option Addr) (t cc : Nat) (sl : List Slt) (runs : List (List Int)) (run : List Int) (vals : List Value),
    vh = .slice Ah n ch ∧ vn = .slice An n cn ∧ va = .int .i64 (a : Nat) ∧ vu = .slice Au p cu ∧ vc = .slice Ac t cc ∧ a ≤ z0.length ∧ Hid (RsV w wr (.slice Ah n ch) (.slice An n cn) (.slice Au p cu) (.slice Ac t cc) n p t A0 z0.length z0 sl runs run vals) ∧ Hid (rsM sl (z0.drop a) < F) ∧ Hid (rsF F sl (z0.drop a) runs run = rsV z0 m) ∧ Hid (RsI z0 m sl (z0.drop a) runs run)
set_option maxRecDepth 100000 in
set_option maxHeartbeats 6400000 in
theorem l15Select_any (A0 : Option Addr) (z0 : List Int) (n0 c0 m : Nat) (w : World) (hx0 : Reads w w.heap.size 1 A0 n0 (ints z0)) (hn0 : z0.length = n0) (h64 : n0 ≤ 64) (hm1 : 1 ≤ m) (hm2 : m ≤ 16) :
    Calls Try.prog 30 #[.slice A0 n0 c0, .int .i64 (m : Nat)] w fun e w' => ∃ v, e = .returned v ∧ OwnsRR w' w.heap.size 22 3 v (rsV z0 m) ∧ Below w.heap.size w w' := by
  obtain ⟨i0, hi, hz0, hz1, hz2⟩ := info_parts (show (Try.prog.info? 3).map (fun i => (i.zero, i.size, i.bytes)) = some (some (.int .i64 0), 1, 8) by kernel_rfl)
  obtain ⟨i1, hj, hy0, hy1, hy2⟩ := info_parts (show (Try.prog.info? 22).map (fun i => (i.zero, i.size, i.bytes)) = some (some (.slice none 0 0), 1, 24) by kernel_rfl)
  obtain ⟨i2, hk, hw0, hw1, hw2⟩ := info_parts (show (Try.prog.info? 4).map (fun i => (i.zero, i.size, i.bytes)) = some (some (.bool false), 1, 1) by kernel_rfl)
  have HZ := Lib.hid hn0
  have HX := Lib.hid hx0
  have HO1 := Lib.hid (show ((w.alloc (.cells #[] 3)).alloc (.cells #[] 4)).ownsRow w.heap.size 3 1 (.slice (some ⟨w.heap.size, 0, none⟩) 0 0) 0 (ints (z0.take 0)) from World.ownsRow.alloc (made_at (Nat.le_refl _) rfl) _)
  have HO2 := Lib.hid (show ((w.alloc (.cells #[] 3)).alloc (.cells #[] 4)).ownsRow w.heap.size 4 1 (.slice (some ⟨w.heap.size + 1, 0, none⟩) 0 0) 0 (bls (List.replicate 0 false)) from made_at (by simp) (by simp))
  have HB0 := Lib.hid (show Below w.heap.size w ((w.alloc (.cells #[] 3)).alloc (.cells #[] 4)) from alloc_ (alloc_ (Below.refl _ _) _) _)
  clear hx0 hn0
  go_enter Try.func30, Try.ntmps30
  go_wp2_with fail
  go_loopw [5, 6, 7] (fun vh vn va wr => ∃ (k : Nat) (Ah : Option Addr) (ch : Nat) (An : Option Addr) (cn : Nat), vh = .slice Ah k ch ∧ vn = .slice An k cn ∧ va = .int .i64 (k : Nat) ∧ k ≤ m ∧ k ≤ n0 ∧ Hid (wr.ownsRow w.heap.size 3 1 (.slice Ah k ch) k (ints (z0.take k))) ∧ Hid (wr.ownsRow w.heap.size 4 1 (.slice An k cn) k (bls (List.replicate k false))) ∧ Hid (Below w.heap.size w wr)) (fun _ _ va _ => n0 - (intOf va).toNat)
  case atStart => exact ⟨0, _, _, _, _, rfl, rfl, rfl, by omega, by omega, HO1, HO2, HB0⟩
  case round =>
    clear HO1 HO2 HB0
    obtain ⟨k, Ah, ch, An, cn, rfl, rfl, rfl, hkm, hkn, HO1, HO2, HB⟩ := hrel
    have hbs := HB.out.size
    by_cases hgo : k < n0 ∧ k < m
    · obtain ⟨hk1, hk2⟩ := hgo
      have i1' : (k : Int) < (n0 : Int) := by omega
      have i2' : (k : Int) < (m : Int) := by omega
      obtain ⟨ad, u0, rfl, -, hu0, c0'⟩ := (HX.out.below HB.out).at_ hk1
      have hkz : k < z0.length := by rw [HZ.out]; exact hk1
      rw [ints_get hkz] at hu0
      cases hu0
      have HT : Hid (z0.take (k + 1) = z0.take k ++ [z0[k]]) := Lib.hid (by rw [List.take_succ_eq_append_getElem hkz])
      obtain ⟨r, hr⟩ : ∃ r, z0[k] = r := ⟨_, rfl⟩
      rw [hr] at c0' HT
      clear hr hkz
      have ho1 := World.ownsRow.alloc HO1.out (.cells #[.int .i64 r] 3)
      go_upto_region 6 with (at_builtin; go_loud (refine wpList_push' _ rfl _ _ 22 rfl w.heap.size 3 i0 _ 1 8 Try.underlying22 hi hz0 hz1 hz2 rfl (by decide) (.slice Ah k ch) _ (ints (z0.take k)) rfl ho1 #[.int .i64 r] wr.heap.size rfl (Blk.new _ _ _) rfl (by simp [Value.oneCell']) (by omega) (by unfold maxLen; omega) (Nat.le_trans hbs (by simp)) ?_; intro g5 d5 w5 hown5 hg5 hb5 hat5))
      have HO3 : Hid (w5.ownsRow w.heap.size 3 1 (.slice (some ⟨g5, 0, none⟩) (k + 1) d5) (k + 1) (ints (z0.take (k + 1)))) := Lib.hid (by rw [HT.out]; have h9 := hown5; simpa [ints] using h9)
      have hbn : Below w.heap.size w w5 := (alloc_ HB.out _).trans hb5
      have hbs5 := hbn.size
      have ho2 := World.ownsRow.alloc ((World.ownsRow.alloc HO2.out (.cells #[.int .i64 r] 3)).kept hg5 (own_ne_type (World.ownsRow.alloc HO2.out (.cells #[.int .i64 r] 3)) ho1 (by decide))) (.cells #[.bool false] 4)
      have HO4 : Hid (w5.ownsRow w.heap.size 3 1 (.slice (some ⟨g5, 0, none⟩) (k + 1) d5) (k + 1) (ints (z0.take (k + 1)))) := HO3
      clear hown5 hg5 hb5 hat5 c0' ho1 HO1 HO2 HB
      go_wp2_with (at_builtin; go_loud (refine wpList_push' _ rfl _ _ 57 rfl w.heap.size 4 i2 _ 1 1 Try.underlying57 hk hw0 hw1 hw2 rfl (by decide) (.slice An k cn) _ (bls (List.replicate k false)) rfl ho2 #[.bool false] w5.heap.size rfl (Blk.new _ _ _) rfl (by simp [Value.oneCell']) (by omega) (by unfold maxLen; omega) (Nat.le_trans hbs5 (by simp)) ?_; intro g6 d6 w6 hown6 hg6 hb6 hat6))
      have HO5 : Hid (w6.ownsRow w.heap.size 3 1 (.slice (some ⟨g5, 0, none⟩) (k + 1) d5) (k + 1) (ints (z0.take (k + 1)))) := Lib.hid ((World.ownsRow.alloc HO4.out _).kept hg6 (own_ne_type (World.ownsRow.alloc HO4.out _) ho2 (by decide)))
      have HO6 : Hid (w6.ownsRow w.heap.size 4 1 (.slice (some ⟨g6, 0, none⟩) (k + 1) d6) (k + 1) (bls (List.replicate (k + 1) false))) := Lib.hid (by rw [← bls_push]; exact hown6)
      have HBN : Hid (Below w.heap.size w w6) := Lib.hid ((alloc_ hbn _).trans hb6)
      go_roundw
      case rel => exact ⟨k + 1, _, _, _, _, rfl, rfl, by go_num, by omega, by omega, HO5, HO6, HBN⟩
      case measure => simp [intOf]; omega
    · have HST : Hid (rinit z0 k = (z0.take m).map (fun x => (x, false)) ∧ z0.drop k = z0.drop m) := Lib.hid (by
        have hz := HZ.out
        rcases Nat.lt_or_ge k m with h | h
        · have hk : n0 ≤ k := by omega
          unfold rinit
          rw [List.take_of_length_le (show z0.length ≤ k by omega), List.take_of_length_le (show z0.length ≤ m by omega), List.drop_of_length_le (show z0.length ≤ k by omega), List.drop_of_length_le (show z0.length ≤ m by omega)]
          exact ⟨rfl, rfl⟩
        · have : k = m := by omega
          subst this
          exact ⟨rfl, rfl⟩)
      have hcase : k = n0 ∨ (k < n0 ∧ k = m) := by omega
      have HN : 1 ≤ m := hm1
      have HKZ : Hid (k ≤ z0.length) := Lib.hid (by rw [HZ.out]; exact hkn)
      have HR1 : Hid (RsV w ((wr.alloc (.cells #[] 22)).alloc (.cells #[] 3)) (.slice Ah k ch) (.slice An k cn) (.slice (some ⟨wr.heap.size, 0, none⟩) 0 0) (.slice (some ⟨wr.heap.size + 1, 0, none⟩) 0 0) k 0 0 A0 z0.length z0 (rinit z0 k) [] [] []) := Lib.hid
        ⟨alloc_ (alloc_ HB.out _) _, by rw [rinit_kys]; exact World.ownsRow.alloc (World.ownsRow.alloc HO1.out _) _, by rw [rinit_mks HKZ.out]; exact World.ownsRow.alloc (World.ownsRow.alloc HO2.out _) _, by simp [rinit, Nat.min_eq_left HKZ.out], by rw [HZ.out]; exact HX.out.below (alloc_ (alloc_ HB.out _) _), rfl,
          World.ownsRow.alloc (made_at hbs rfl) _, Inner.nil, rfl, made_at (by simp; omega) (by simp), rfl, by simp, by simp, ne_symm (fresh_ne (B := wr.heap.size) (fun k hk => (own_lt HO1.out k hk).2) fun k hk => by cases hk; exact Nat.le_succ _)⟩
      have HST2 := Lib.hid (rs_start z0 m HN)
      have HST3 : Hid (rsM (rinit z0 k) (z0.drop k) < 2 * z0.length + 2) := Lib.hid (by rw [HST.out.1, HST.out.2]; exact HST2.out.2)
      have HST4 : Hid (rsF (2 * z0.length + 2) (rinit z0 k) (z0.drop k) [] [] = rsV z0 m) := Lib.hid (by rw [HST.out.1, HST.out.2]; rfl)
      have HST5 : Hid (RsI z0 m (rinit z0 k) (z0.drop k) [] []) := Lib.hid (by rw [HST.out.1, HST.out.2]; exact HST2.out.1)
      have hzl := HZ.out
      clear hgo HO1 HO2 HB HST HST2
      subst hzl
      rcases hcase with hkk | ⟨hq, hkk⟩
      all_goals (have HKK := Lib.hid hkk; clear hkk)
      · have kI : ¬ (k : Int) < (z0.length : Int) := by have := HKK.out; omega
        go_wp2_with fail
        go_loopg [5, 6, 7, 8, 9] (2 * z0.length + 2) (fun F vh vn va vu vc wr => Lv2 w A0 z0 m F vh vn va vu vc wr)
        case atStart => exact ⟨_, _, _, _, _, _, _, _, _, _, _, _, _, _, _, [], rfl, rfl, rfl, rfl, rfl, HKZ.out, HR1, HST3, HST4, HST5⟩
        case round =>
          clear HR1 HST3 HST4 HST5 HKZ
          obtain ⟨Ah, n, ch, An, cn, a, Au, p, cu, Ac, t, cc, sl, runs, run, vals, rfl, rfl, rfl, rfl, rfl, haz, HR, HF, HE, HI⟩ := hrel
          have hle := HR.out.le HI.out haz
          have h64' : p + t + n + (z0.length - a) ≤ 64 := by omega
          clear hle
          by_cases hn : 0 < n
          · obtain ⟨gh, ch', hA', hgh1, hgh2, hgh3, hgh4⟩ := own_some HR.out.h hn
            cases hA'
            obtain ⟨gn, cn', hA', -, -, -, -⟩ := own_some HR.out.m hn
            cases hA'
            have hnI : (0 : Int) < (n : Int) := by omega
            have HSN := Lib.hid HR.out.sn
            have hgc : Hid (n ≤ ch ∧ ch ≤ maxLen) := Lib.hid ⟨hgh3, hgh4⟩
            have hgc2 : Hid (n ≤ cn ∧ cn ≤ maxLen) := Lib.hid (own_cap2 HR.out.m)
            clear hgh1 hgh2 hgh3 hgh4
            go_wp2_with fail
            go_loopw [10, 11] (fun vb vi wr2 => ∃ (j : Nat) (b : Int), j ≤ n ∧ vi = .int .i64 (j : Nat) ∧ vb = .int .i64 b ∧ Hid (b = bestI sl j) ∧ -1 ≤ b ∧ b < (j : Int) ∧ Below wr.heap.size wr wr2) (fun _ vi _ => n - (intOf vi).toNat)
            case atStart => exact ⟨0, -1, by omega, rfl, rfl, Lib.hid rfl, by omega, by omega, Below.refl _ _⟩
            case round =>
              obtain ⟨j, b, hjn, rfl, rfl, HB, hb1, hb2, hbl⟩ := hrel
              have HR2 := Lib.hid (HR.out.below hbl)
              by_cases hjj : j < n
              · have jI : (j : Int) < (n : Int) := by omega
                have hjl : j < sl.length := by rw [HSN.out]; exact hjj
                have c1 := HR2.out.h.cellAt j (by omega)
                have c2 := HR2.out.m.cellAt j (by omega)
                rw [kys_get hjl] at c1
                rw [mks_get hjl] at c2
                obtain ⟨x, hx⟩ : ∃ x, ky sl j = x := ⟨_, rfl⟩
                obtain ⟨mk, hmk⟩ : ∃ mk, mkd sl j = mk := ⟨_, rfl⟩
                rw [hx] at c1
                rw [hmk] at c2
                have HXX := Lib.hid hx
                have HM := Lib.hid hmk
                clear hx hmk hjl
                cases mk
                · by_cases hbn : b < 0
                  · have HBN := Lib.hid (best_neg HM.out (by rw [← HB.out]; exact hbn))
                    go_upto_region 15 with fail
                    go_quiet (fail)
                    go_wp2_with fail
                    go_roundw
                    case rel => exact ⟨j + 1, j, by omega, by go_num, rfl, Lib.hid HBN.out.symm, by omega, by omega, below_drewN hbl _⟩
                    case measure => simp [intOf]; omega
                  · obtain ⟨d, rfl⟩ : ∃ d : Nat, b = (d : Int) := ⟨b.toNat, by omega⟩
                    have hdj : d < n := by omega
                    have hdI : (d : Int) < (n : Int) := by omega
                    have hd0 : ¬ ((d : Int) < 0) := by omega
                    have c5 := HR2.out.h.cellAt d (by omega)
                    rw [kys_get (show d < sl.length by rw [HSN.out]; exact hdj)] at c5
                    obtain ⟨y, hy⟩ : ∃ y, ky sl d = y := ⟨_, rfl⟩
                    rw [hy] at c5
                    have HY := Lib.hid hy
                    clear hy
                    by_cases hxy : x < y
                    · have HBN := Lib.hid (best_new HM.out HB.out.symm (by rw [HXX.out, HY.out]; exact hxy))
                      go_upto_region 15 with fail
                      go_quiet (fail)
                      go_wp2_with fail
                      go_roundw
                      case rel => exact ⟨j + 1, j, by omega, by go_num, rfl, Lib.hid HBN.out.symm, by omega, by omega, below_drewN hbl _⟩
                      case measure => simp [intOf]; omega
                    · have HBN := Lib.hid (best_kept HM.out HB.out.symm (by rw [HXX.out, HY.out]; exact hxy))
                      go_upto_region 15 with fail
                      go_quiet (fail)
                      go_wp2_with fail
                      go_roundw
                      case rel => exact ⟨j + 1, d, by omega, by go_num, rfl, Lib.hid HBN.out.symm, by omega, by omega, below_drewN hbl _⟩
                      case measure => simp [intOf]; omega
                · have HBN := Lib.hid (best_old HM.out)
                  go_upto_region 15 with fail
                  go_quiet (fail)
                  go_wp2_with fail
                  go_roundw
                  case rel => exact ⟨j + 1, b, by omega, by go_num, rfl, Lib.hid (by rw [HBN.out]; exact HB.out), by omega, by omega, below_drewN hbl _⟩
                  case measure => simp [intOf]; omega
              · have jI : ¬ (j : Int) < (n : Int) := by omega
                obtain rfl : n = j := by omega
                have HSL : Hid (sl.length ≠ 0) := Lib.hid (by rw [HSN.out]; omega)
                obtain ⟨F, rfl⟩ : ∃ F, gk = F + 1 := ⟨gk - 1, by have := HF.out; omega⟩
                clear HR hbl
                have hbs := HR2.out.b.size
                by_cases hbn : b < 0
                · have hbb : bestI sl sl.length < 0 := by rw [HSN.out, ← HB.out]; exact hbn
                  have HI2 := Lib.hid (HI.out.close HSL.out hbb)
                  have HF2 : Hid (rsM (unm sl) (z0.drop a) < F) := Lib.hid (by have h1 := rsM_unm (rest := z0.drop a) HSL.out hbb; have h2 := HF.out; omega)
                  have HE2 : Hid (rsF F (unm sl) (z0.drop a) (runs ++ [run]) [] = rsV z0 m) := Lib.hid (by have h9 := HE.out; unfold rsF at h9; rw [if_neg HSL.out, if_pos hbb] at h9; exact h9)
                  clear hbb
                  have HR3 := Lib.hid (HR2.out.alloc (.cells #[.slice Ac t cc] 22))
                  have hu := HR3.out.u
                  go_wp2_with (at_builtin; go_loud (refine wpList_push' _ rfl _ _ 29 rfl w.heap.size 22 i1 _ 1 24 Try.underlying29 hj hy0 hy1 hy2 rfl (by decide) (.slice Au p cu) _ vals rfl hu #[.slice Ac t cc] wr.heap.size rfl (Blk.new _ _ _) rfl (by simp [Value.oneCell']) (by omega) (by unfold maxLen; omega) (Nat.le_trans hbs (by simp)) ?_; intro g1 d1 w3 hown3 hg3 hb3 hat3))
                  have HR4 := Lib.hid (HR3.out.close hg3 hown3)
                  clear HR2 HR3 hu hown3 hg3 hb3 hat3 HE HF HI
                  go_loopw [12] (fun vi wr2 => ∃ (j : Nat) (sl2 : List Slt), j ≤ n ∧ vi = .int .i64 (j : Nat) ∧ Hid (sl2 = (unm sl).take j ++ sl.drop j) ∧ Hid (RsV w wr2 (.slice (some ⟨gh, 0, none⟩) n ch) (.slice (some ⟨gn, 0, none⟩) n cn) (.slice (some ⟨g1, 0, none⟩) (p + 1) d1) (.slice (some ⟨w3.heap.size, 0, none⟩) 0 0) n (p + 1) 0 A0 z0.length z0 sl2 (runs ++ [run]) [] (vals ++ [.slice Ac t cc]))) (fun vi _ => n - (intOf vi).toNat)
                  case atStart => exact ⟨0, sl, by omega, rfl, Lib.hid (by simp), HR4⟩
                  case round =>
                    clear HR4
                    obtain ⟨j, sl2, hjn, rfl, HS2, HR5⟩ := hrel
                    by_cases hjj : j < n
                    · have jI : (j : Int) < (n : Int) := by omega
                      have hsl2 : sl2.length = n := HR5.out.sn
                      have c1 := HR5.out.m.cellAt j (by omega)
                      have f1 := HR5.out.m.frozenAt j
                      rw [mks_get (by omega)] at c1
                      have HR6 := Lib.hid (HR5.out.setN (k := j) (s := false) (sl' := sl2.set j (ky sl2 j, false)) (mks_set (ky sl2 j, false)) (kys_same false))
                      have HS3 : Hid (sl2.set j (ky sl2 j, false) = (unm sl).take (j + 1) ++ sl.drop (j + 1)) := Lib.hid (by rw [HS2.out]; exact unm_step sl j (by rw [HSN.out]; exact hjj))
                      clear hsl2
                      go_wp2_with fail
                      go_roundw
                      case rel => exact ⟨j + 1, _, by omega, by go_num, HS3, HR6⟩
                      case measure => simp [intOf]; omega
                    · have jI : ¬ (j : Int) < (n : Int) := by omega
                      obtain rfl : n = j := by omega
                      have hse : sl2 = unm sl := by
                        rw [HS2.out, List.take_of_length_le (by simp [unm, HSN.out]), List.drop_of_length_le (by rw [HSN.out]; exact Nat.le_refl _), List.append_nil]
                      subst hse
                      go_wp2_with fail
                      go_roundg F
                      case measure => omega
                      case rel => exact ⟨_, _, _, _, _, _, _, _, _, _, _, _, _, _, _, _, rfl, rfl, rfl, rfl, rfl, haz, HR5, HF2, HE2, HI2⟩
                · obtain ⟨d, rfl⟩ : ∃ d : Nat, b = (d : Int) := ⟨b.toNat, by omega⟩
                  have hdj : d < n := by omega
                  have hdI : (d : Int) < (n : Int) := by omega
                  have hd0 : ¬ ((d : Int) < 0) := by omega
                  have hdl : d < sl.length := by rw [HSN.out]; exact hdj
                  have HBD : Hid (bestI sl sl.length = (d : Int)) := Lib.hid (by rw [HSN.out, ← HB.out])
                  have HNB : Hid (¬ bestI sl sl.length < 0) := Lib.hid (by rw [HBD.out]; omega)
                  have c1 := HR2.out.h.cellAt d (by omega)
                  rw [kys_get hdl] at c1
                  obtain ⟨x, hx⟩ : ∃ x, ky sl d = x := ⟨_, rfl⟩
                  rw [hx] at c1
                  have HXX := Lib.hid hx
                  clear hx
                  have HDL := Lib.hid hdl
                  clear hdl
                  have HR3 := Lib.hid (HR2.out.alloc (.cells #[.int .i64 x] 3))
                  have hkr := HR3.out.k
                  have HKT := Lib.hid HR3.out.kt
                  by_cases haq : a < z0.length
                  · have aI : (a : Int) < (z0.length : Int) := by omega
                    obtain ⟨ad, u0, hA0, -, hu0, -⟩ := HR3.out.r.at_ haq
                    subst hA0
                    have hdr := List.drop_eq_getElem_cons haq
                    have hr0 := List.getElem?_eq_getElem haq
                    obtain ⟨r, hr⟩ : ∃ r, z0[a] = r := ⟨_, rfl⟩
                    rw [hr] at hdr hr0
                    have HRR := Lib.hid hr0
                    clear hu0 hr0
                    have HI2 : Hid (RsI z0 m (sl.set d (r, decide (r < x))) (z0.drop (a + 1)) runs (run ++ [x])) := Lib.hid (by have h9 := HI.out; rw [hdr] at h9; have := h9.swap HNB.out; rwa [HBD.out, Int.toNat_natCast, HXX.out] at this)
                    have HF2 : Hid (rsM (sl.set d (r, decide (r < x))) (z0.drop (a + 1)) < F) := Lib.hid (by have h1 := rsM_set (sl := sl) (r := r) (rest := z0.drop (a + 1)) d (r, decide (r < x)); have h2 := HF.out; rw [hdr] at h2; omega)
                    have HE2 : Hid (rsF F (sl.set d (r, decide (r < x))) (z0.drop (a + 1)) runs (run ++ [x]) = rsV z0 m) := Lib.hid (by rw [← HE.out, hdr, rsF, if_neg HSL.out, if_neg HNB.out]; simp only [HBD.out, Int.toNat_natCast, HXX.out])
                    clear HE HF HI hr hdr
                    go_upto_region 26 with (at_builtin; go_loud (refine wpList_push' _ rfl _ _ 22 rfl w.heap.size 3 i0 _ 1 8 Try.underlying22 hi hz0 hz1 hz2 rfl (by decide) (.slice Ac t cc) _ (ints run) rfl hkr #[.int .i64 x] wr.heap.size rfl (Blk.new _ _ _) rfl (by simp [Value.oneCell']) (by omega) (by unfold maxLen; omega) (Nat.le_trans hbs (by simp)) ?_; intro g5 d5 w5 hown5 hg5 hb5 hat5))
                    have HR4 := Lib.hid (HR3.out.grow (run' := run ++ [x]) (vC' := .slice (some ⟨g5, 0, none⟩) (t + 1) d5) hg5 (by have h9 := hown5; simpa [ints] using h9) (by rw [List.length_append, HKT.out]; rfl) (by
                      rcases hat5 with h | h
                      · exact .inl h.symm
                      · exact .inr fun k hk => by cases hk; exact h))
                    clear HR2 HR3 hkr hown5 hg5 hb5 hat5 c1
                    have c0' := HR4.out.cell_ haq HRR.out
                    have c1 := HR4.out.h.cellAt d (by omega)
                    have c2 := HR4.out.m.cellAt d (by omega)
                    rw [kys_get HDL.out, HXX.out] at c1
                    rw [mks_get HDL.out] at c2
                    have f2 := HR4.out.m.frozenAt d
                    have HR5 := Lib.hid ((HR4.out.setN (k := d) (s := decide (r < x)) (sl' := sl.set d (ky sl d, decide (r < x))) (mks_set (ky sl d, decide (r < x))) (kys_same _)).drew)
                    clear HR4
                    go_region_law (fail)
                    all_goals
                      clear c0' c1 c2 f2
                      generalize (w5.setCell ⟨gn, d, none⟩ (.bool (decide (r < x)))).drew = w7 at *
                      have c0' := HR5.out.cell_ haq HRR.out
                      have c1 := HR5.out.h.cellAt d (by omega)
                      have f2 := HR5.out.h.frozenAt d
                      rw [kys_get (by rw [List.length_set]; exact HDL.out)] at c1
                      have HR6 := Lib.hid (HR5.out.setH (k := d) (s := r) (sl' := sl.set d (r, decide (r < x))) (by rw [kys_same]; exact kys_set (r, decide (r < x))) (by simp [mks, List.map_set]))
                      clear HR5
                      go_wp2_with fail
                      go_roundg F
                      case measure => omega
                      case rel => exact ⟨_, _, _, _, _, _, _, _, _, _, _, _, _, _, _, _, rfl, rfl, by go_num, rfl, rfl, by omega, HR6, HF2, HE2, HI2⟩
                  · have aI : ¬ (a : Int) < (z0.length : Int) := by omega
                    have hdr : z0.drop a = [] := List.drop_of_length_le (by omega)
                    have HI2 : Hid (RsI z0 m (sl.eraseIdx d) (z0.drop a) runs (run ++ [x])) := Lib.hid (by have h9 := HI.out; rw [hdr] at h9; have := h9.drop HNB.out; rw [HBD.out, Int.toNat_natCast, HXX.out] at this; rw [hdr]; exact this)
                    have HF2 : Hid (rsM (sl.eraseIdx d) (z0.drop a) < F) := Lib.hid (by have h1 := rsM_erase HDL.out; have h2 := HF.out; rw [hdr] at h2 ⊢; omega)
                    have HE2 : Hid (rsF F (sl.eraseIdx d) (z0.drop a) runs (run ++ [x]) = rsV z0 m) := Lib.hid (by rw [← HE.out, hdr, rsF, if_neg HSL.out, if_neg HNB.out]; simp only [HBD.out, Int.toNat_natCast, HXX.out])
                    clear HE HF HI hdr
                    go_upto_region 29 with (at_builtin; go_loud (refine wpList_push' _ rfl _ _ 22 rfl w.heap.size 3 i0 _ 1 8 Try.underlying22 hi hz0 hz1 hz2 rfl (by decide) (.slice Ac t cc) _ (ints run) rfl hkr #[.int .i64 x] wr.heap.size rfl (Blk.new _ _ _) rfl (by simp [Value.oneCell']) (by omega) (by unfold maxLen; omega) (Nat.le_trans hbs (by simp)) ?_; intro g5 d5 w5 hown5 hg5 hb5 hat5))
                    have HR4 := Lib.hid (HR3.out.grow (run' := run ++ [x]) (vC' := .slice (some ⟨g5, 0, none⟩) (t + 1) d5) hg5 (by have h9 := hown5; simpa [ints] using h9) (by rw [List.length_append, HKT.out]; rfl) (by
                      rcases hat5 with h | h
                      · exact .inl h.symm
                      · exact .inr fun k hk => by cases hk; exact h))
                    clear HR2 HR3 hkr hown5 hg5 hb5 hat5 c1
                    obtain ⟨j, hj⟩ : ∃ j, j = d + 1 := ⟨_, rfl⟩
                    have ej : (d : Int) + 1 = (j : Int) := by omega
                    have hjn : j ≤ n := by omega
                    have hdn : d ≤ n := by omega
                    have hdc : d ≤ ch := by have := hgc.out.1; omega
                    have hjc : j ≤ ch := by have := hgc.out.1; omega
                    have hnc : n ≤ ch := hgc.out.1
                    have hdc2 : d ≤ cn := by have := hgc2.out.1; omega
                    have hjc2 : j ≤ cn := by have := hgc2.out.1; omega
                    have hnc2 : n ≤ cn := hgc2.out.1
                    have ew : IntKind.i64.wrap (j : Int) = (j : Int) := IntWalk.i64_in _ (by omega)
                    have HJ := Lib.hid hj
                    clear hj
                    obtain ⟨X, hX⟩ : ∃ X : Option Addr, (if ch = j then some (⟨gh, 0, none⟩ : Addr) else some ⟨gh, j, none⟩) = X := ⟨_, rfl⟩
                    obtain ⟨Y, hY⟩ : ∃ Y : Option Addr, (if cn = j then some (⟨gn, 0, none⟩ : Addr) else some ⟨gn, j, none⟩) = Y := ⟨_, rfl⟩
                    have HP1 : Hid (∀ w', Below w5.heap.size w5 w' → Reads w' w5.heap.size 1 (some ⟨gh, 0, none⟩) d (ints ((kys sl).take d))) := Lib.hid fun w' hb => by
                      have := (Reads.of_own HR4.out.h).pre hdn
                      rw [show (ints (kys sl)).take d = ints ((kys sl).take d) from by simp [ints, List.map_take]] at this
                      exact this.below hb
                    have HP2 : Hid (∀ w', Below w5.heap.size w5 w' → Reads w' w5.heap.size 1 X (n - j) (ints ((kys sl).drop j))) := Lib.hid fun w' hb => by
                      have := (Reads.of_own HR4.out.h).cut hjn hnc
                      rw [Nat.mul_one, show (ints (kys sl)).drop j = ints ((kys sl).drop j) from by simp [ints, List.map_drop]] at this
                      rw [← hX]
                      rw [Option.map_some, add_at0] at this
                      exact this.below hb
                    have HQ1 : Hid (∀ w', Below w5.heap.size w5 w' → Reads w' w5.heap.size 1 (some ⟨gn, 0, none⟩) d (bls ((mks sl).take d))) := Lib.hid fun w' hb => by
                      have := (Reads.of_own HR4.out.m).pre hdn
                      rw [show (bls (mks sl)).take d = bls ((mks sl).take d) from by simp [bls, List.map_take]] at this
                      exact this.below hb
                    have HQ2 : Hid (∀ w', Below w5.heap.size w5 w' → Reads w' w5.heap.size 1 Y (n - j) (bls ((mks sl).drop j))) := Lib.hid fun w' hb => by
                      have := (Reads.of_own HR4.out.m).cut hjn hnc2
                      rw [Nat.mul_one, show (bls (mks sl)).drop j = bls ((mks sl).drop j) from by simp [bls, List.map_drop]] at this
                      rw [← hY]
                      rw [Option.map_some, add_at0] at this
                      exact this.below hb
                    have hb0 : Below w5.heap.size w5 (w5.drew.alloc (.cells #[] 3)) := alloc_ (bdrew (Below.refl _ _)) _
                    have hm0 : (w5.drew.alloc (.cells #[] 3)).ownsRow w5.heap.size 3 1 (.slice (some ⟨w5.heap.size, 0, none⟩) 0 0) 0 [] := made_at (Nat.le_refl _) rfl
                    go_region_law (first | (refine step_append_any _ rfl (.tmp 116) (.tmp 119) 22 rfl w5.heap.size 3 i0 _ 1 8 Try.underlying22 hi hz0 hz1 hz2 rfl (by decide) (.slice (some ⟨w5.heap.size, 0, none⟩) 0 0) 0 [] (by simp [Act.eval]) hm0 w5.heap.size (some ⟨gh, 0, none⟩) d ch (ints ((kys sl).take d)) (by simp [Act.eval]) (HP1.out _ hb0) (ints_one_ _) (by unfold maxLen; omega) (by omega) hb0.size ?_; intro v7 w7 o7 g7 a7) | (refine step_append_any _ rfl (.tmp 120) (.tmp 124) 22 rfl w5.heap.size 3 i0 _ 1 8 Try.underlying22 hi hz0 hz1 hz2 rfl (by decide) v7 (0 + d) _ (by simp [Act.eval]) o7 w5.heap.size X (n - j) (ch - j) (ints ((kys sl).drop j)) (by simp [Act.eval]) (HP2.out _ (hb0.trans (below_of_grown g7 hb0.size (fun k hk => by cases hk; exact Nat.le_refl _)))) (ints_one_ _) (by unfold maxLen; omega) (by omega) (hb0.trans (below_of_grown g7 hb0.size (fun k hk => by cases hk; exact Nat.le_refl _))).size ?_; intro v8 w8 o8 g8 a8))
                    all_goals
                      have hb7 : Below w5.heap.size w5 w7 := hb0.trans (below_of_grown g7 hb0.size (fun k hk => by cases hk; exact Nat.le_refl _))
                      have hb8 : Below w5.heap.size w5 w8 := hb7.trans (below_of_grown g8 hb7.size (fun k hk => (own_lt o7 k hk).1))
                      have e9 : 0 + d + (n - j) = n - 1 := by have := HJ.out; omega
                      rw [e9] at o8
                      obtain ⟨A9, c9, rfl⟩ := own_slice o8
                      have HH : Hid (w8.ownsRow w5.heap.size 3 1 (.slice A9 (n - 1) c9) (n - 1) (ints (kys (sl.eraseIdx d)))) := Lib.hid (by
                        rw [kys_erase, ← HJ.out]
                        have h9 := o8
                        simpa [ints] using h9)
                      have hB1 : Below w8.heap.size w8 (w8.drew.alloc (.cells #[] 4)) := alloc_ (bdrew (Below.refl _ _)) _
                      have hm1 : (w8.drew.alloc (.cells #[] 4)).ownsRow w8.heap.size 4 1 (.slice (some ⟨w8.heap.size, 0, none⟩) 0 0) 0 [] := made_at (Nat.le_refl _) rfl
                      have hbs8 := hb8.size
                      clear g7 g8 a7 a8 o7 o8 hb0 hm0 hb7 e9
                      go_upto_region 30 with fail
                      go_region_law (first | (refine step_append_any _ rfl (.tmp 126) (.tmp 129) 57 rfl w8.heap.size 4 i2 _ 1 1 Try.underlying57 hk hw0 hw1 hw2 rfl (by decide) (.slice (some ⟨w8.heap.size, 0, none⟩) 0 0) 0 [] (by simp [Act.eval]) hm1 w5.heap.size (some ⟨gn, 0, none⟩) d cn (bls ((mks sl).take d)) (by simp [Act.eval]) (HQ1.out _ (bthen hb8 hB1)) (bls_one_ _) (by unfold maxLen; omega) (by omega) hB1.size ?_; intro v9 w9 o9 g9 a9) | (refine step_append_any _ rfl (.tmp 130) (.tmp 134) 57 rfl w8.heap.size 4 i2 _ 1 1 Try.underlying57 hk hw0 hw1 hw2 rfl (by decide) v9 (0 + d) _ (by simp [Act.eval]) o9 w5.heap.size Y (n - j) (cn - j) (bls ((mks sl).drop j)) (by simp [Act.eval]) (HQ2.out _ (bthen hb8 (hB1.trans (below_of_grown g9 hB1.size (fun k hk => by cases hk; exact Nat.le_refl _))))) (bls_one_ _) (by unfold maxLen; omega) (by omega) (hB1.trans (below_of_grown g9 hB1.size (fun k hk => by cases hk; exact Nat.le_refl _))).size ?_; intro v10 w10 o10 g10 a10))
                      all_goals
                        have hb9 : Below w8.heap.size w8 w9 := hB1.trans (below_of_grown g9 hB1.size (fun k hk => by cases hk; exact Nat.le_refl _))
                        have hb10 : Below w8.heap.size w8 w10 := hb9.trans (below_of_grown g10 hb9.size (fun k hk => (own_lt o9 k hk).1))
                        have e9 : 0 + d + (n - j) = n - 1 := by have := HJ.out; omega
                        rw [e9] at o10
                        obtain ⟨A10, c10, rfl⟩ := own_slice o10
                        have HM2 : w10.ownsRow w8.heap.size 4 1 (.slice A10 (n - 1) c10) (n - 1) (bls (mks (sl.eraseIdx d))) := by
                          rw [mks_erase, ← HJ.out]
                          have h9 := o10
                          simpa [bls] using h9
                        have HR6 := Lib.hid (HR4.out.both (bthen hb8 hb10) (own_below HH.out hb10 (Nat.le_refl _)) (own_base HM2 hbs8) (by rw [List.length_eraseIdx_of_lt HDL.out, HSN.out]))
                        clear g9 g10 a9 a10 o9 o10 hm1 hb9 e9 HM2 HR4 HH hb8 hb10 hB1
                        go_wp2_with fail
                        go_roundg F
                        case measure => omega
                        case rel => exact ⟨_, _, _, _, _, _, _, _, _, _, _, _, _, _, _, _, rfl, rfl, rfl, rfl, rfl, haz, HR6, HF2, HE2, HI2⟩
          · have hn0 : n = 0 := by omega
            subst hn0
            obtain ⟨F, rfl⟩ : ∃ F, gk = F + 1 := ⟨gk - 1, by have := HF.out; omega⟩
            have h9 := HE.out
            unfold rsF at h9
            rw [if_pos HR.out.sn] at h9
            have hrl := HR.out.kt
            rw [hrl] at h9
            have hbs := HR.out.b.size
            by_cases ht : t = 0
            · rw [if_pos ht] at h9
              have HE2 := Lib.hid h9
              have hu := HR.out.u
              have hpp := HR.out.up
              have HO : Hid (OwnsRR wr w.heap.size 22 3 (.slice Au p cu) (rsV z0 m) ∧ Below w.heap.size w wr) := Lib.hid ⟨⟨vals, by rw [← h9, hpp]; exact hu, by rw [← h9]; exact HR.out.i⟩, HR.out.b⟩
              clear h9 hrl hu hpp
              subst ht
              go_wp2_with fail
              go_ret
              exact ⟨_, rfl, HO.out.1, HO.out.2⟩
            · rw [if_neg ht] at h9
              have HE2 := Lib.hid h9
              have htI : (0 : Int) < (t : Int) := by omega
              have HR3 := Lib.hid (HR.out.alloc (.cells #[.slice Ac t cc] 22))
              have hu := HR3.out.u
              clear h9 hrl
              go_wp2_with (at_builtin; go_loud (refine wpList_push' _ rfl _ _ 29 rfl w.heap.size 22 i1 _ 1 24 Try.underlying29 hj hy0 hy1 hy2 rfl (by decide) (.slice Au p cu) _ vals rfl hu #[.slice Ac t cc] wr.heap.size rfl (Blk.new _ _ _) rfl (by simp [Value.oneCell']) (by omega) (by unfold maxLen; omega) (Nat.le_trans hbs (by simp)) ?_; intro g1 d1 w3 hown3 hg3 hb3 hat3))
              have HO := Lib.hid (HR3.out.last hg3 hown3)
              go_ret
              exact ⟨_, rfl, by rw [← HE2.out]; exact HO.out.2, HO.out.1⟩
      · have kI : (k : Int) < (z0.length : Int) := by omega
        have kM : ¬ (k : Int) < (m : Int) := by have := HKK.out; omega
        go_wp2_with fail
        go_loopg [5, 6, 7, 8, 9] (2 * z0.length + 2) (fun F vh vn va vu vc wr => Lv2 w A0 z0 m F vh vn va vu vc wr)
        case atStart => exact ⟨_, _, _, _, _, _, _, _, _, _, _, _, _, _, _, [], rfl, rfl, rfl, rfl, rfl, HKZ.out, HR1, HST3, HST4, HST5⟩
        case round =>
          clear HR1 HST3 HST4 HST5 HKZ
          obtain ⟨Ah, n, ch, An, cn, a, Au, p, cu, Ac, t, cc, sl, runs, run, vals, rfl, rfl, rfl, rfl, rfl, haz, HR, HF, HE, HI⟩ := hrel
          have hle := HR.out.le HI.out haz
          have h64' : p + t + n + (z0.length - a) ≤ 64 := by omega
          clear hle
          by_cases hn : 0 < n
          · obtain ⟨gh, ch', hA', hgh1, hgh2, hgh3, hgh4⟩ := own_some HR.out.h hn
            cases hA'
            obtain ⟨gn, cn', hA', -, -, -, -⟩ := own_some HR.out.m hn
            cases hA'
            have hnI : (0 : Int) < (n : Int) := by omega
            have HSN := Lib.hid HR.out.sn
            have hgc : Hid (n ≤ ch ∧ ch ≤ maxLen) := Lib.hid ⟨hgh3, hgh4⟩
            have hgc2 : Hid (n ≤ cn ∧ cn ≤ maxLen) := Lib.hid (own_cap2 HR.out.m)
            clear hgh1 hgh2 hgh3 hgh4
            go_wp2_with fail
            go_loopw [10, 11] (fun vb vi wr2 => ∃ (j : Nat) (b : Int), j ≤ n ∧ vi = .int .i64 (j : Nat) ∧ vb = .int .i64 b ∧ Hid (b = bestI sl j) ∧ -1 ≤ b ∧ b < (j : Int) ∧ Below wr.heap.size wr wr2) (fun _ vi _ => n - (intOf vi).toNat)
            case atStart => exact ⟨0, -1, by omega, rfl, rfl, Lib.hid rfl, by omega, by omega, Below.refl _ _⟩
            case round =>
              obtain ⟨j, b, hjn, rfl, rfl, HB, hb1, hb2, hbl⟩ := hrel
              have HR2 := Lib.hid (HR.out.below hbl)
              by_cases hjj : j < n
              · have jI : (j : Int) < (n : Int) := by omega
                have hjl : j < sl.length := by rw [HSN.out]; exact hjj
                have c1 := HR2.out.h.cellAt j (by omega)
                have c2 := HR2.out.m.cellAt j (by omega)
                rw [kys_get hjl] at c1
                rw [mks_get hjl] at c2
                obtain ⟨x, hx⟩ : ∃ x, ky sl j = x := ⟨_, rfl⟩
                obtain ⟨mk, hmk⟩ : ∃ mk, mkd sl j = mk := ⟨_, rfl⟩
                rw [hx] at c1
                rw [hmk] at c2
                have HXX := Lib.hid hx
                have HM := Lib.hid hmk
                clear hx hmk hjl
                cases mk
                · by_cases hbn : b < 0
                  · have HBN := Lib.hid (best_neg HM.out (by rw [← HB.out]; exact hbn))
                    go_upto_region 15 with fail
                    go_quiet (fail)
                    go_wp2_with fail
                    go_roundw
                    case rel => exact ⟨j + 1, j, by omega, by go_num, rfl, Lib.hid HBN.out.symm, by omega, by omega, below_drewN hbl _⟩
                    case measure => simp [intOf]; omega
                  · obtain ⟨d, rfl⟩ : ∃ d : Nat, b = (d : Int) := ⟨b.toNat, by omega⟩
                    have hdj : d < n := by omega
                    have hdI : (d : Int) < (n : Int) := by omega
                    have hd0 : ¬ ((d : Int) < 0) := by omega
                    have c5 := HR2.out.h.cellAt d (by omega)
                    rw [kys_get (show d < sl.length by rw [HSN.out]; exact hdj)] at c5
                    obtain ⟨y, hy⟩ : ∃ y, ky sl d = y := ⟨_, rfl⟩
                    rw [hy] at c5
                    have HY := Lib.hid hy
                    clear hy
                    by_cases hxy : x < y
                    · have HBN := Lib.hid (best_new HM.out HB.out.symm (by rw [HXX.out, HY.out]; exact hxy))
                      go_upto_region 15 with fail
                      go_quiet (fail)
                      go_wp2_with fail
                      go_roundw
                      case rel => exact ⟨j + 1, j, by omega, by go_num, rfl, Lib.hid HBN.out.symm, by omega, by omega, below_drewN hbl _⟩
                      case measure => simp [intOf]; omega
                    · have HBN := Lib.hid (best_kept HM.out HB.out.symm (by rw [HXX.out, HY.out]; exact hxy))
                      go_upto_region 15 with fail
                      go_quiet (fail)
                      go_wp2_with fail
                      go_roundw
                      case rel => exact ⟨j + 1, d, by omega, by go_num, rfl, Lib.hid HBN.out.symm, by omega, by omega, below_drewN hbl _⟩
                      case measure => simp [intOf]; omega
                · have HBN := Lib.hid (best_old HM.out)
                  go_upto_region 15 with fail
                  go_quiet (fail)
                  go_wp2_with fail
                  go_roundw
                  case rel => exact ⟨j + 1, b, by omega, by go_num, rfl, Lib.hid (by rw [HBN.out]; exact HB.out), by omega, by omega, below_drewN hbl _⟩
                  case measure => simp [intOf]; omega
              · have jI : ¬ (j : Int) < (n : Int) := by omega
                obtain rfl : n = j := by omega
                have HSL : Hid (sl.length ≠ 0) := Lib.hid (by rw [HSN.out]; omega)
                obtain ⟨F, rfl⟩ : ∃ F, gk = F + 1 := ⟨gk - 1, by have := HF.out; omega⟩
                clear HR hbl
                have hbs := HR2.out.b.size
                by_cases hbn : b < 0
                · have hbb : bestI sl sl.length < 0 := by rw [HSN.out, ← HB.out]; exact hbn
                  have HI2 := Lib.hid (HI.out.close HSL.out hbb)
                  have HF2 : Hid (rsM (unm sl) (z0.drop a) < F) := Lib.hid (by have h1 := rsM_unm (rest := z0.drop a) HSL.out hbb; have h2 := HF.out; omega)
                  have HE2 : Hid (rsF F (unm sl) (z0.drop a) (runs ++ [run]) [] = rsV z0 m) := Lib.hid (by have h9 := HE.out; unfold rsF at h9; rw [if_neg HSL.out, if_pos hbb] at h9; exact h9)
                  clear hbb
                  have HR3 := Lib.hid (HR2.out.alloc (.cells #[.slice Ac t cc] 22))
                  have hu := HR3.out.u
                  go_wp2_with (at_builtin; go_loud (refine wpList_push' _ rfl _ _ 29 rfl w.heap.size 22 i1 _ 1 24 Try.underlying29 hj hy0 hy1 hy2 rfl (by decide) (.slice Au p cu) _ vals rfl hu #[.slice Ac t cc] wr.heap.size rfl (Blk.new _ _ _) rfl (by simp [Value.oneCell']) (by omega) (by unfold maxLen; omega) (Nat.le_trans hbs (by simp)) ?_; intro g1 d1 w3 hown3 hg3 hb3 hat3))
                  have HR4 := Lib.hid (HR3.out.close hg3 hown3)
                  clear HR2 HR3 hu hown3 hg3 hb3 hat3 HE HF HI
                  go_loopw [12] (fun vi wr2 => ∃ (j : Nat) (sl2 : List Slt), j ≤ n ∧ vi = .int .i64 (j : Nat) ∧ Hid (sl2 = (unm sl).take j ++ sl.drop j) ∧ Hid (RsV w wr2 (.slice (some ⟨gh, 0, none⟩) n ch) (.slice (some ⟨gn, 0, none⟩) n cn) (.slice (some ⟨g1, 0, none⟩) (p + 1) d1) (.slice (some ⟨w3.heap.size, 0, none⟩) 0 0) n (p + 1) 0 A0 z0.length z0 sl2 (runs ++ [run]) [] (vals ++ [.slice Ac t cc]))) (fun vi _ => n - (intOf vi).toNat)
                  case atStart => exact ⟨0, sl, by omega, rfl, Lib.hid (by simp), HR4⟩
                  case round =>
                    clear HR4
                    obtain ⟨j, sl2, hjn, rfl, HS2, HR5⟩ := hrel
                    by_cases hjj : j < n
                    · have jI : (j : Int) < (n : Int) := by omega
                      have hsl2 : sl2.length = n := HR5.out.sn
                      have c1 := HR5.out.m.cellAt j (by omega)
                      have f1 := HR5.out.m.frozenAt j
                      rw [mks_get (by omega)] at c1
                      have HR6 := Lib.hid (HR5.out.setN (k := j) (s := false) (sl' := sl2.set j (ky sl2 j, false)) (mks_set (ky sl2 j, false)) (kys_same false))
                      have HS3 : Hid (sl2.set j (ky sl2 j, false) = (unm sl).take (j + 1) ++ sl.drop (j + 1)) := Lib.hid (by rw [HS2.out]; exact unm_step sl j (by rw [HSN.out]; exact hjj))
                      clear hsl2
                      go_wp2_with fail
                      go_roundw
                      case rel => exact ⟨j + 1, _, by omega, by go_num, HS3, HR6⟩
                      case measure => simp [intOf]; omega
                    · have jI : ¬ (j : Int) < (n : Int) := by omega
                      obtain rfl : n = j := by omega
                      have hse : sl2 = unm sl := by
                        rw [HS2.out, List.take_of_length_le (by simp [unm, HSN.out]), List.drop_of_length_le (by rw [HSN.out]; exact Nat.le_refl _), List.append_nil]
                      subst hse
                      go_wp2_with fail
                      go_roundg F
                      case measure => omega
                      case rel => exact ⟨_, _, _, _, _, _, _, _, _, _, _, _, _, _, _, _, rfl, rfl, rfl, rfl, rfl, haz, HR5, HF2, HE2, HI2⟩
                · obtain ⟨d, rfl⟩ : ∃ d : Nat, b = (d : Int) := ⟨b.toNat, by omega⟩
                  have hdj : d < n := by omega
                  have hdI : (d : Int) < (n : Int) := by omega
                  have hd0 : ¬ ((d : Int) < 0) := by omega
                  have hdl : d < sl.length := by rw [HSN.out]; exact hdj
                  have HBD : Hid (bestI sl sl.length = (d : Int)) := Lib.hid (by rw [HSN.out, ← HB.out])
                  have HNB : Hid (¬ bestI sl sl.length < 0) := Lib.hid (by rw [HBD.out]; omega)
                  have c1 := HR2.out.h.cellAt d (by omega)
                  rw [kys_get hdl] at c1
                  obtain ⟨x, hx⟩ : ∃ x, ky sl d = x := ⟨_, rfl⟩
                  rw [hx] at c1
                  have HXX := Lib.hid hx
                  clear hx
                  have HDL := Lib.hid hdl
                  clear hdl
                  have HR3 := Lib.hid (HR2.out.alloc (.cells #[.int .i64 x] 3))
                  have hkr := HR3.out.k
                  have HKT := Lib.hid HR3.out.kt
                  by_cases haq : a < z0.length
                  · have aI : (a : Int) < (z0.length : Int) := by omega
                    obtain ⟨ad, u0, hA0, -, hu0, -⟩ := HR3.out.r.at_ haq
                    subst hA0
                    have hdr := List.drop_eq_getElem_cons haq
                    have hr0 := List.getElem?_eq_getElem haq
                    obtain ⟨r, hr⟩ : ∃ r, z0[a] = r := ⟨_, rfl⟩
                    rw [hr] at hdr hr0
                    have HRR := Lib.hid hr0
                    clear hu0 hr0
                    have HI2 : Hid (RsI z0 m (sl.set d (r, decide (r < x))) (z0.drop (a + 1)) runs (run ++ [x])) := Lib.hid (by have h9 := HI.out; rw [hdr] at h9; have := h9.swap HNB.out; rwa [HBD.out, Int.toNat_natCast, HXX.out] at this)
                    have HF2 : Hid (rsM (sl.set d (r, decide (r < x))) (z0.drop (a + 1)) < F) := Lib.hid (by have h1 := rsM_set (sl := sl) (r := r) (rest := z0.drop (a + 1)) d (r, decide (r < x)); have h2 := HF.out; rw [hdr] at h2; omega)
                    have HE2 : Hid (rsF F (sl.set d (r, decide (r < x))) (z0.drop (a + 1)) runs (run ++ [x]) = rsV z0 m) := Lib.hid (by rw [← HE.out, hdr, rsF, if_neg HSL.out, if_neg HNB.out]; simp only [HBD.out, Int.toNat_natCast, HXX.out])
                    clear HE HF HI hr hdr
                    go_upto_region 26 with (at_builtin; go_loud (refine wpList_push' _ rfl _ _ 22 rfl w.heap.size 3 i0 _ 1 8 Try.underlying22 hi hz0 hz1 hz2 rfl (by decide) (.slice Ac t cc) _ (ints run) rfl hkr #[.int .i64 x] wr.heap.size rfl (Blk.new _ _ _) rfl (by simp [Value.oneCell']) (by omega) (by unfold maxLen; omega) (Nat.le_trans hbs (by simp)) ?_; intro g5 d5 w5 hown5 hg5 hb5 hat5))
                    have HR4 := Lib.hid (HR3.out.grow (run' := run ++ [x]) (vC' := .slice (some ⟨g5, 0, none⟩) (t + 1) d5) hg5 (by have h9 := hown5; simpa [ints] using h9) (by rw [List.length_append, HKT.out]; rfl) (by
                      rcases hat5 with h | h
                      · exact .inl h.symm
                      · exact .inr fun k hk => by cases hk; exact h))
                    clear HR2 HR3 hkr hown5 hg5 hb5 hat5 c1
                    have c0' := HR4.out.cell_ haq HRR.out
                    have c1 := HR4.out.h.cellAt d (by omega)
                    have c2 := HR4.out.m.cellAt d (by omega)
                    rw [kys_get HDL.out, HXX.out] at c1
                    rw [mks_get HDL.out] at c2
                    have f2 := HR4.out.m.frozenAt d
                    have HR5 := Lib.hid ((HR4.out.setN (k := d) (s := decide (r < x)) (sl' := sl.set d (ky sl d, decide (r < x))) (mks_set (ky sl d, decide (r < x))) (kys_same _)).drew)
                    clear HR4
                    go_region_law (fail)
                    all_goals
                      clear c0' c1 c2 f2
                      generalize (w5.setCell ⟨gn, d, none⟩ (.bool (decide (r < x)))).drew = w7 at *
                      have c0' := HR5.out.cell_ haq HRR.out
                      have c1 := HR5.out.h.cellAt d (by omega)
                      have f2 := HR5.out.h.frozenAt d
                      rw [kys_get (by rw [List.length_set]; exact HDL.out)] at c1
                      have HR6 := Lib.hid (HR5.out.setH (k := d) (s := r) (sl' := sl.set d (r, decide (r < x))) (by rw [kys_same]; exact kys_set (r, decide (r < x))) (by simp [mks, List.map_set]))
                      clear HR5
                      go_wp2_with fail
                      go_roundg F
                      case measure => omega
                      case rel => exact ⟨_, _, _, _, _, _, _, _, _, _, _, _, _, _, _, _, rfl, rfl, by go_num, rfl, rfl, by omega, HR6, HF2, HE2, HI2⟩
                  · have aI : ¬ (a : Int) < (z0.length : Int) := by omega
                    have hdr : z0.drop a = [] := List.drop_of_length_le (by omega)
                    have HI2 : Hid (RsI z0 m (sl.eraseIdx d) (z0.drop a) runs (run ++ [x])) := Lib.hid (by have h9 := HI.out; rw [hdr] at h9; have := h9.drop HNB.out; rw [HBD.out, Int.toNat_natCast, HXX.out] at this; rw [hdr]; exact this)
                    have HF2 : Hid (rsM (sl.eraseIdx d) (z0.drop a) < F) := Lib.hid (by have h1 := rsM_erase HDL.out; have h2 := HF.out; rw [hdr] at h2 ⊢; omega)
                    have HE2 : Hid (rsF F (sl.eraseIdx d) (z0.drop a) runs (run ++ [x]) = rsV z0 m) := Lib.hid (by rw [← HE.out, hdr, rsF, if_neg HSL.out, if_neg HNB.out]; simp only [HBD.out, Int.toNat_natCast, HXX.out])
                    clear HE HF HI hdr
                    go_upto_region 29 with (at_builtin; go_loud (refine wpList_push' _ rfl _ _ 22 rfl w.heap.size 3 i0 _ 1 8 Try.underlying22 hi hz0 hz1 hz2 rfl (by decide) (.slice Ac t cc) _ (ints run) rfl hkr #[.int .i64 x] wr.heap.size rfl (Blk.new _ _ _) rfl (by simp [Value.oneCell']) (by omega) (by unfold maxLen; omega) (Nat.le_trans hbs (by simp)) ?_; intro g5 d5 w5 hown5 hg5 hb5 hat5))
                    have HR4 := Lib.hid (HR3.out.grow (run' := run ++ [x]) (vC' := .slice (some ⟨g5, 0, none⟩) (t + 1) d5) hg5 (by have h9 := hown5; simpa [ints] using h9) (by rw [List.length_append, HKT.out]; rfl) (by
                      rcases hat5 with h | h
                      · exact .inl h.symm
                      · exact .inr fun k hk => by cases hk; exact h))
                    clear HR2 HR3 hkr hown5 hg5 hb5 hat5 c1
                    obtain ⟨j, hj⟩ : ∃ j, j = d + 1 := ⟨_, rfl⟩
                    have ej : (d : Int) + 1 = (j : Int) := by omega
                    have hjn : j ≤ n := by omega
                    have hdn : d ≤ n := by omega
                    have hdc : d ≤ ch := by have := hgc.out.1; omega
                    have hjc : j ≤ ch := by have := hgc.out.1; omega
                    have hnc : n ≤ ch := hgc.out.1
                    have hdc2 : d ≤ cn := by have := hgc2.out.1; omega
                    have hjc2 : j ≤ cn := by have := hgc2.out.1; omega
                    have hnc2 : n ≤ cn := hgc2.out.1
                    have ew : IntKind.i64.wrap (j : Int) = (j : Int) := IntWalk.i64_in _ (by omega)
                    have HJ := Lib.hid hj
                    clear hj
                    obtain ⟨X, hX⟩ : ∃ X : Option Addr, (if ch = j then some (⟨gh, 0, none⟩ : Addr) else some ⟨gh, j, none⟩) = X := ⟨_, rfl⟩
                    obtain ⟨Y, hY⟩ : ∃ Y : Option Addr, (if cn = j then some (⟨gn, 0, none⟩ : Addr) else some ⟨gn, j, none⟩) = Y := ⟨_, rfl⟩
                    have HP1 : Hid (∀ w', Below w5.heap.size w5 w' → Reads w' w5.heap.size 1 (some ⟨gh, 0, none⟩) d (ints ((kys sl).take d))) := Lib.hid fun w' hb => by
                      have := (Reads.of_own HR4.out.h).pre hdn
                      rw [show (ints (kys sl)).take d = ints ((kys sl).take d) from by simp [ints, List.map_take]] at this
                      exact this.below hb
                    have HP2 : Hid (∀ w', Below w5.heap.size w5 w' → Reads w' w5.heap.size 1 X (n - j) (ints ((kys sl).drop j))) := Lib.hid fun w' hb => by
                      have := (Reads.of_own HR4.out.h).cut hjn hnc
                      rw [Nat.mul_one, show (ints (kys sl)).drop j = ints ((kys sl).drop j) from by simp [ints, List.map_drop]] at this
                      rw [← hX]
                      rw [Option.map_some, add_at0] at this
                      exact this.below hb
                    have HQ1 : Hid (∀ w', Below w5.heap.size w5 w' → Reads w' w5.heap.size 1 (some ⟨gn, 0, none⟩) d (bls ((mks sl).take d))) := Lib.hid fun w' hb => by
                      have := (Reads.of_own HR4.out.m).pre hdn
                      rw [show (bls (mks sl)).take d = bls ((mks sl).take d) from by simp [bls, List.map_take]] at this
                      exact this.below hb
                    have HQ2 : Hid (∀ w', Below w5.heap.size w5 w' → Reads w' w5.heap.size 1 Y (n - j) (bls ((mks sl).drop j))) := Lib.hid fun w' hb => by
                      have := (Reads.of_own HR4.out.m).cut hjn hnc2
                      rw [Nat.mul_one, show (bls (mks sl)).drop j = bls ((mks sl).drop j) from by simp [bls, List.map_drop]] at this
                      rw [← hY]
                      rw [Option.map_some, add_at0] at this
                      exact this.below hb
                    have hb0 : Below w5.heap.size w5 (w5.drew.alloc (.cells #[] 3)) := alloc_ (bdrew (Below.refl _ _)) _
                    have hm0 : (w5.drew.alloc (.cells #[] 3)).ownsRow w5.heap.size 3 1 (.slice (some ⟨w5.heap.size, 0, none⟩) 0 0) 0 [] := made_at (Nat.le_refl _) rfl
                    go_region_law (first | (refine step_append_any _ rfl (.tmp 116) (.tmp 119) 22 rfl w5.heap.size 3 i0 _ 1 8 Try.underlying22 hi hz0 hz1 hz2 rfl (by decide) (.slice (some ⟨w5.heap.size, 0, none⟩) 0 0) 0 [] (by simp [Act.eval]) hm0 w5.heap.size (some ⟨gh, 0, none⟩) d ch (ints ((kys sl).take d)) (by simp [Act.eval]) (HP1.out _ hb0) (ints_one_ _) (by unfold maxLen; omega) (by omega) hb0.size ?_; intro v7 w7 o7 g7 a7) | (refine step_append_any _ rfl (.tmp 120) (.tmp 124) 22 rfl w5.heap.size 3 i0 _ 1 8 Try.underlying22 hi hz0 hz1 hz2 rfl (by decide) v7 (0 + d) _ (by simp [Act.eval]) o7 w5.heap.size X (n - j) (ch - j) (ints ((kys sl).drop j)) (by simp [Act.eval]) (HP2.out _ (hb0.trans (below_of_grown g7 hb0.size (fun k hk => by cases hk; exact Nat.le_refl _)))) (ints_one_ _) (by unfold maxLen; omega) (by omega) (hb0.trans (below_of_grown g7 hb0.size (fun k hk => by cases hk; exact Nat.le_refl _))).size ?_; intro v8 w8 o8 g8 a8))
                    all_goals
                      have hb7 : Below w5.heap.size w5 w7 := hb0.trans (below_of_grown g7 hb0.size (fun k hk => by cases hk; exact Nat.le_refl _))
                      have hb8 : Below w5.heap.size w5 w8 := hb7.trans (below_of_grown g8 hb7.size (fun k hk => (own_lt o7 k hk).1))
                      have e9 : 0 + d + (n - j) = n - 1 := by have := HJ.out; omega
                      rw [e9] at o8
                      obtain ⟨A9, c9, rfl⟩ := own_slice o8
                      have HH : Hid (w8.ownsRow w5.heap.size 3 1 (.slice A9 (n - 1) c9) (n - 1) (ints (kys (sl.eraseIdx d)))) := Lib.hid (by
                        rw [kys_erase, ← HJ.out]
                        have h9 := o8
                        simpa [ints] using h9)
                      have hB1 : Below w8.heap.size w8 (w8.drew.alloc (.cells #[] 4)) := alloc_ (bdrew (Below.refl _ _)) _
                      have hm1 : (w8.drew.alloc (.cells #[] 4)).ownsRow w8.heap.size 4 1 (.slice (some ⟨w8.heap.size, 0, none⟩) 0 0) 0 [] := made_at (Nat.le_refl _) rfl
                      have hbs8 := hb8.size
                      clear g7 g8 a7 a8 o7 o8 hb0 hm0 hb7 e9
                      go_upto_region 30 with fail
                      go_region_law (first | (refine step_append_any _ rfl (.tmp 126) (.tmp 129) 57 rfl w8.heap.size 4 i2 _ 1 1 Try.underlying57 hk hw0 hw1 hw2 rfl (by decide) (.slice (some ⟨w8.heap.size, 0, none⟩) 0 0) 0 [] (by simp [Act.eval]) hm1 w5.heap.size (some ⟨gn, 0, none⟩) d cn (bls ((mks sl).take d)) (by simp [Act.eval]) (HQ1.out _ (bthen hb8 hB1)) (bls_one_ _) (by unfold maxLen; omega) (by omega) hB1.size ?_; intro v9 w9 o9 g9 a9) | (refine step_append_any _ rfl (.tmp 130) (.tmp 134) 57 rfl w8.heap.size 4 i2 _ 1 1 Try.underlying57 hk hw0 hw1 hw2 rfl (by decide) v9 (0 + d) _ (by simp [Act.eval]) o9 w5.heap.size Y (n - j) (cn - j) (bls ((mks sl).drop j)) (by simp [Act.eval]) (HQ2.out _ (bthen hb8 (hB1.trans (below_of_grown g9 hB1.size (fun k hk => by cases hk; exact Nat.le_refl _))))) (bls_one_ _) (by unfold maxLen; omega) (by omega) (hB1.trans (below_of_grown g9 hB1.size (fun k hk => by cases hk; exact Nat.le_refl _))).size ?_; intro v10 w10 o10 g10 a10))
                      all_goals
                        have hb9 : Below w8.heap.size w8 w9 := hB1.trans (below_of_grown g9 hB1.size (fun k hk => by cases hk; exact Nat.le_refl _))
                        have hb10 : Below w8.heap.size w8 w10 := hb9.trans (below_of_grown g10 hb9.size (fun k hk => (own_lt o9 k hk).1))
                        have e9 : 0 + d + (n - j) = n - 1 := by have := HJ.out; omega
                        rw [e9] at o10
                        obtain ⟨A10, c10, rfl⟩ := own_slice o10
                        have HM2 : w10.ownsRow w8.heap.size 4 1 (.slice A10 (n - 1) c10) (n - 1) (bls (mks (sl.eraseIdx d))) := by
                          rw [mks_erase, ← HJ.out]
                          have h9 := o10
                          simpa [bls] using h9
                        have HR6 := Lib.hid (HR4.out.both (bthen hb8 hb10) (own_below HH.out hb10 (Nat.le_refl _)) (own_base HM2 hbs8) (by rw [List.length_eraseIdx_of_lt HDL.out, HSN.out]))
                        clear g9 g10 a9 a10 o9 o10 hm1 hb9 e9 HM2 HR4 HH hb8 hb10 hB1
                        go_wp2_with fail
                        go_roundg F
                        case measure => omega
                        case rel => exact ⟨_, _, _, _, _, _, _, _, _, _, _, _, _, _, _, _, rfl, rfl, rfl, rfl, rfl, haz, HR6, HF2, HE2, HI2⟩
          · have hn0 : n = 0 := by omega
            subst hn0
            obtain ⟨F, rfl⟩ : ∃ F, gk = F + 1 := ⟨gk - 1, by have := HF.out; omega⟩
            have h9 := HE.out
            unfold rsF at h9
            rw [if_pos HR.out.sn] at h9
            have hrl := HR.out.kt
            rw [hrl] at h9
            have hbs := HR.out.b.size
            by_cases ht : t = 0
            · rw [if_pos ht] at h9
              have HE2 := Lib.hid h9
              have hu := HR.out.u
              have hpp := HR.out.up
              have HO : Hid (OwnsRR wr w.heap.size 22 3 (.slice Au p cu) (rsV z0 m) ∧ Below w.heap.size w wr) := Lib.hid ⟨⟨vals, by rw [← h9, hpp]; exact hu, by rw [← h9]; exact HR.out.i⟩, HR.out.b⟩
              clear h9 hrl hu hpp
              subst ht
              go_wp2_with fail
              go_ret
              exact ⟨_, rfl, HO.out.1, HO.out.2⟩
            · rw [if_neg ht] at h9
              have HE2 := Lib.hid h9
              have htI : (0 : Int) < (t : Int) := by omega
              have HR3 := Lib.hid (HR.out.alloc (.cells #[.slice Ac t cc] 22))
              have hu := HR3.out.u
              clear h9 hrl
              go_wp2_with (at_builtin; go_loud (refine wpList_push' _ rfl _ _ 29 rfl w.heap.size 22 i1 _ 1 24 Try.underlying29 hj hy0 hy1 hy2 rfl (by decide) (.slice Au p cu) _ vals rfl hu #[.slice Ac t cc] wr.heap.size rfl (Blk.new _ _ _) rfl (by simp [Value.oneCell']) (by omega) (by unfold maxLen; omega) (Nat.le_trans hbs (by simp)) ?_; intro g1 d1 w3 hown3 hg3 hb3 hat3))
              have HO := Lib.hid (HR3.out.last hg3 hown3)
              go_ret
              exact ⟨_, rfl, by rw [← HE2.out]; exact HO.out.2, HO.out.1⟩
end Go.Proofs.Ytecbagdljgnloaa
