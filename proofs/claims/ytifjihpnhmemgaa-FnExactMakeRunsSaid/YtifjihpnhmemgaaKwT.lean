/- Merging several ascending lists of records: the reference's side. -/
import Derived.Test.YtifjihpnhmemgaaKwS
import Derived.Test.YtifjihpnhmemgaaKwG
namespace Go.Proofs.Ytifjihpnhmemgaa
open Go.RowKit
set_option linter.unusedVariables false
set_option maxRecDepth 100000 in
set_option maxHeartbeats 800000 in
theorem l2Records_any (A : Option Addr) (cs : List (Int × Int)) (c : Nat) (w : World) (hx : Reads w w.heap.size 2 A cs.length (cmps cs)) (hl : cs.length ≤ 1099511627776) :
    Calls Try.prog 20 #[.slice A cs.length c] w fun e w' => e = .returned (.bool (rsOk cs)) ∧ Below w.heap.size w w' := by
  have HX := Lib.hid hx
  clear hx
  go_enter Try.func20, Try.ntmps20
  go_wp2_with fail
  go_loopw [3] (fun vi wr => ∃ (k : Nat), k ≤ cs.length ∧ k ≤ 65 ∧ vi = .int .i64 (k : Nat) ∧ Hid ((cs.take k).all rOk = true) ∧ Hid (Below w.heap.size w wr)) (fun vi _ => 65 - (intOf vi).toNat)
  case atStart => exact ⟨0, by omega, by omega, rfl, Lib.hid (by simp), Lib.hid (Below.refl _ _)⟩
  case round =>
    obtain ⟨k, hk, hk5, rfl, HA, HW⟩ := hrel
    by_cases hlt : k < cs.length
    · have hkI : (k : Int) < cs.length := by omega
      by_cases h64 : k ≤ 64
      · have h64I : (k : Int) ≤ 64 := by omega
        obtain ⟨ad, rfl, hadl, hc0, hc1⟩ := (HX.out.below HW.out).cmp hlt
        have HT := fun h => Lib.hid (all_take (p := rOk) hlt HA.out h)
        have HF := fun h => Lib.hid (all_at (p := rOk) hlt h)
        have hro : rOk cs[k] = (inB cs[k].1 (-100000) 100000 && inB cs[k].2 0 999) := rfl
        rw [hro] at HT HF
        clear hro
        generalize cs[k].1 = r1 at *
        generalize cs[k].2 = r2 at *
        cases h1 : inB r1 (-100000) 100000
        · have hF := (HF (by rw [h1]; rfl)).out
          have HF2 : Hid (rsOk cs = false) := Lib.hid (by unfold rsOk; rw [hF, Bool.and_false])
          have H1 := Lib.hid h1
          clear h1 hF HT HF
          go_wp2_with (go_at_call 19; refine (l1In_any _ _ _ _).mono ?_; rintro e w' ⟨rfl, rfl⟩; rw [H1.out])
          go_ret
          exact ⟨retb HF2.out.symm, HW.out⟩
        · have H1 := Lib.hid h1
          cases h2 : inB r2 0 999
          · have hF := (HF (by rw [h1, h2]; rfl)).out
            have HF2 : Hid (rsOk cs = false) := Lib.hid (by unfold rsOk; rw [hF, Bool.and_false])
            have H2 := Lib.hid h2
            clear h1 h2 hF HT HF
            go_wp2_with (go_at_call 19; refine (l1In_any _ _ _ _).mono ?_; rintro e w' ⟨rfl, rfl⟩; first | rw [H1.out] | rw [H2.out])
            go_ret
            exact ⟨retb HF2.out.symm, HW.out⟩
          · have HT2 := HT (by rw [h1, h2]; rfl)
            have H2 := Lib.hid h2
            clear h1 h2 HT HF
            go_wp2_with (go_at_call 19; refine (l1In_any _ _ _ _).mono ?_; rintro e w' ⟨rfl, rfl⟩; first | rw [H1.out] | rw [H2.out])
            go_roundw
            case rel => exact ⟨k + 1, by omega, by omega, by go_num, HT2, HW⟩
            case measure => simp [intOf]; omega
      · have h64I : ¬ (k : Int) ≤ 64 := by omega
        have hl64 : ¬ (cs.length : Int) ≤ 64 := by omega
        have HF2 : Hid (rsOk cs = false) := Lib.hid (by unfold rsOk; rw [show decide (cs.length ≤ 64) = false by simp; omega]; rfl)
        go_wp2_with fail
        go_ret
        exact ⟨retb HF2.out.symm, HW.out⟩
    · have hkI : ¬ (k : Int) < cs.length := by omega
      have hAA : cs.all rOk = true := by have h := HA.out; rwa [List.take_of_length_le (by omega)] at h
      have HF2 : Hid (rsOk cs = decide ((cs.length : Int) ≤ 64)) := Lib.hid (by unfold rsOk; rw [hAA, Bool.and_true]; simp; omega)
      clear hAA
      go_wp2_with fail
      go_ret
      exact ⟨retb HF2.out.symm, HW.out⟩
set_option maxRecDepth 100000 in
set_option maxHeartbeats 800000 in
theorem l5Asc_any (A : Option Addr) (cs : List (Int × Int)) (c : Nat) (w : World) (hx : Reads w w.heap.size 2 A cs.length (cmps cs)) (hl : cs.length ≤ 1099511627776) :
    Calls Try.prog 21 #[.slice A cs.length c] w fun e w' => e = .returned (.bool (ascB cs)) ∧ Below w.heap.size w w' := by
  have HX := Lib.hid hx
  clear hx
  go_enter Try.func21, Try.ntmps21
  go_wp2_with fail
  go_loopw [3] (fun vi wr => ∃ (k : Nat), k ≤ cs.length ∧ vi = .int .i64 (k : Nat) ∧ Hid (∀ j, j < k → j + 1 < cs.length → ky cs j ≤ ky cs (j + 1)) ∧ Hid (Below w.heap.size w wr)) (fun vi _ => cs.length - (intOf vi).toNat)
  case atStart => exact ⟨0, by omega, rfl, Lib.hid (fun j h => by omega), Lib.hid (Below.refl _ _)⟩
  case round =>
    obtain ⟨k, hk, rfl, HA, HW⟩ := hrel
    by_cases hlt : k + 1 < cs.length
    · obtain ⟨n, hn⟩ : ∃ n, k + 1 = n := ⟨_, rfl⟩
      have hk0 : k < cs.length := by omega
      obtain ⟨ad, rfl, hadl, hc0, -⟩ := (HX.out.below HW.out).cmp hk0
      obtain ⟨bd, ebd, -, hd0, -⟩ := (HX.out.below HW.out).cmp (k := n) (by omega)
      cases ebd
      have hkI : (k : Int) + 1 < cs.length := by omega
      have hnI : ((k : Int) + 1) = (n : Int) := by omega
      have hnl : (n : Int) < cs.length := by omega
      have hkl : (k : Int) < cs.length := by omega
      have hn0 : (0 : Int) ≤ (k : Int) + 1 := by omega
      have hnt : ((k : Int) + 1).toNat = n := by omega
      have hw : IntKind.i64.wrap ((k : Int) + 1) = (k : Int) + 1 := IntWalk.i64_in _ (by omega)
      have hkx := ky_at hk0
      have hky := ky_at (cs := cs) (i := n) (by omega)
      have hno : ¬ ky cs k ≤ ky cs n → ascB cs = false := fun h => ascB_no hlt (by rw [hn]; exact h)
      have hyes : ky cs k ≤ ky cs n → Hid (∀ j, j < k + 1 → j + 1 < cs.length → ky cs j ≤ ky cs (j + 1)) := fun h => Lib.hid (fun j h1 h2 => by
        by_cases e : j = k
        · rw [e, hn]; exact h
        · exact HA.out j (by omega) h2)
      rw [hkx, hky] at hno hyes
      have HNO := Lib.hid hno
      have HYES := Lib.hid hyes
      clear hno hyes hkx hky HA
      generalize cs[k].1 = x at *
      generalize cs[n].1 = y at *
      by_cases hxy : x ≤ y
      · have hg : ¬ x > y := by omega
        have HN := Lib.hid (HYES.out hxy).out
        clear HNO HYES
        have hnI' := Lib.hid hnI
        go_upto_region 4 with fail
        clear hnI hn
        go_quiet (fail)
        go_wp2_with fail
        go_roundw
        case rel => exact ⟨k + 1, by omega, by go_num, HN, Lib.hid (below_drewN HW.out _)⟩
        case measure => simp [intOf]; omega
      · have hg : x > y := by omega
        have HN := Lib.hid (HNO.out hxy)
        clear HNO HYES
        go_upto_region 4 with fail
        clear hnI hn
        go_quiet (fail)
        go_wp2_with fail
        go_ret
        exact ⟨retb HN.out.symm, below_drewN HW.out _⟩
    · have hkI : ¬ (k : Int) + 1 < cs.length := by omega
      have HF2 : Hid (ascB cs = true) := Lib.hid (ascB_iff.2 fun i hi => HA.out i (by omega) hi)
      go_wp2_with fail
      go_ret
      exact ⟨retb HF2.out.symm, HW.out⟩
theorem kOk_all {Z : List Recs} {k : Nat} (hk : k < Z.length) (h : (rsOk Z[k] && ascB Z[k]) = false) : kOk Z = false := by
  unfold kOk ksOk
  rw [all_at (p := fun l => rsOk l && ascB l) hk h, Bool.false_and, Bool.and_false]
set_option maxRecDepth 100000 in
set_option maxHeartbeats 1600000 in
theorem sKWayMerge_any (A : Option Addr) (Z : List Recs) (c : Nat) (w : World) (hx : ReadsQQ w w.heap.size A Z) (hl : Z.length + totR Z ≤ 1048576) :
    Calls Try.prog 6 #[.slice A Z.length c] w fun e w' => GotK Z w e w' := by
  have HX := Lib.hid hx
  clear hx
  have HTR : Hid (totR Z = (Z.map List.length).sum) := Lib.hid rfl
  have HNO : Hid (kOk Z = false → ∀ (w1 : World), Below w.heap.size w w1 → GotK Z w (.returned (.tuple #[.slice (some ⟨w1.heap.size, 0, none⟩) 0 0, .int .i64 0, .bool false])) (w1.alloc (.cells #[] 47))) := Lib.hid fun h w1 hb =>
    ⟨some ⟨w1.heap.size, 0, none⟩, 0, by simp [kmO, kmN, h], by simp only [kmO, h]; exact made_at hb.size rfl, alloc_ hb _⟩
  cases h1 : inB (Z.length : Int) 1 16
  · have HN := Lib.hid (HNO.out (by unfold kOk; rw [h1]; rfl) w (Below.refl _ _))
    have H1 := Lib.hid h1
    clear h1 HNO
    go_enter Try.func6, Try.ntmps6
    go_wp2_with (go_at_call 19; refine (l1In_any _ _ _ _).mono ?_; rintro e w' ⟨rfl, rfl⟩; rw [H1.out])
    exact bodyPost_ret (v := .tuple #[.slice (some ⟨w.heap.size, 0, none⟩) 0 0, .int .i64 0, .bool false]) (by simp [results, Try.results6, go_sem]) rfl HN.out
  obtain ⟨k1, k2⟩ := inB_iff.1 h1
  have H1 := Lib.hid h1
  clear h1
  go_enter Try.func6, Try.ntmps6
  go_wp2_with (go_at_call 19; refine (l1In_any _ _ _ _).mono ?_; rintro e w' ⟨rfl, rfl⟩; rw [H1.out])
  go_loopw [5, 6] (fun vt vi wr => ∃ (k s : Nat), k ≤ Z.length ∧ vi = .int .i64 (k : Nat) ∧ vt = .int .i64 (s : Nat) ∧ Hid (s = ((Z.map List.length).take k).sum) ∧ Hid ((Z.take k).all (fun l => rsOk l && ascB l) = true) ∧ Hid (Below w.heap.size w wr)) (fun _ vi _ => Z.length - (intOf vi).toNat)
  case atStart => exact ⟨0, 0, by omega, rfl, rfl, Lib.hid (by simp), Lib.hid (by simp), Lib.hid (Below.refl _ _)⟩
  case round =>
    obtain ⟨k, s, hk, rfl, rfl, HS, HA, HW⟩ := hrel
    have hsle := sum_take_le (Z.map List.length) k
    rw [← HS.out, ← HTR.out] at hsle
    by_cases hlt : k < Z.length
    · have hkI : (k : Int) < Z.length := by omega
      obtain ⟨ad, A', c', rfl, hadl, hc, hr⟩ := (HX.out.below HW.out).atB hlt
      have hkm : k < (Z.map List.length).length := by simpa using hlt
      have hss := sum_take_succ hkm
      have hle1 := sum_take_le (Z.map List.length) (k + 1)
      have hzk : (Z.map List.length)[k] = Z[k].length := by simp
      rw [hzk, ← HS.out] at hss
      rw [hss, ← HTR.out] at hle1
      have HSS := Lib.hid hss
      have HR := Lib.hid hr
      have HT := fun h => Lib.hid (all_take (p := fun l => rsOk l && ascB l) hlt HA.out h)
      have HF := fun h => Lib.hid (kOk_all (Z := Z) hlt h)
      clear hss hzk hkm hr
      cases h1 : rsOk Z[k]
      · have HK := HF (by rw [h1]; rfl)
        have HC := Lib.hid (l2Records_any A' Z[k] c' wr (HR.out.more HW.out.size) (by omega))
        rw [h1] at HC
        clear h1 HT HF
        generalize Z[k].length = n at *
        go_wp2_with fail
        refine HC.out.mono ?_
        rintro e w1 ⟨rfl, hb1⟩
        have HN := Lib.hid (HNO.out HK.out w1 (bthen HW.out hb1))
        clear hb1 HC
        go_wp2_with fail
        exact bodyPost_ret (v := .tuple #[.slice (some ⟨w1.heap.size, 0, none⟩) 0 0, .int .i64 0, .bool false]) (by simp [results, Try.results6, go_sem]) rfl HN.out
      · have HC := Lib.hid (l2Records_any A' Z[k] c' wr (HR.out.more HW.out.size) (by omega))
        rw [h1] at HC
        cases h2 : ascB Z[k]
        · have HK := HF (by rw [h1, h2]; rfl)
          have HD := Lib.hid (fun (w1 : World) (hb : Below wr.heap.size wr w1) => l5Asc_any A' Z[k] c' w1 ((HR.out.below (hb.mono HW.out.size)).more (Nat.le_trans HW.out.size hb.size)) (by omega))
          rw [h2] at HD
          clear h1 h2 HT HF
          generalize Z[k].length = n at *
          go_wp2_with fail
          refine HC.out.mono ?_
          rintro e w1 ⟨rfl, hb1⟩
          have hc1 := (hb1.cell (Nat.lt_of_lt_of_le hadl HW.out.size)).trans hc
          go_wp2_with fail
          refine (HD.out w1 hb1).mono ?_
          rintro e w2 ⟨rfl, hb2⟩
          have HN := Lib.hid (HNO.out HK.out w2 (bthen (bthen HW.out hb1) hb2))
          clear hb1 HC hc1 hb2
          go_wp2_with fail
          exact bodyPost_ret (v := .tuple #[.slice (some ⟨w2.heap.size, 0, none⟩) 0 0, .int .i64 0, .bool false]) (by simp [results, Try.results6, go_sem]) rfl HN.out
        · have HT2 := HT (by rw [h1, h2]; rfl)
          have HD := Lib.hid (fun (w1 : World) (hb : Below wr.heap.size wr w1) => l5Asc_any A' Z[k] c' w1 ((HR.out.below (hb.mono HW.out.size)).more (Nat.le_trans HW.out.size hb.size)) (by omega))
          rw [h2] at HD
          clear h1 h2 HT HF
          generalize Z[k].length = n at *
          go_wp2_with fail
          refine HC.out.mono ?_
          rintro e w1 ⟨rfl, hb1⟩
          have hc1 := (hb1.cell (Nat.lt_of_lt_of_le hadl HW.out.size)).trans hc
          go_wp2_with fail
          refine (HD.out w1 hb1).mono ?_
          rintro e w2 ⟨rfl, hb2⟩
          have hc2 := (hb2.cell (Nat.lt_of_lt_of_le (Nat.lt_of_lt_of_le hadl HW.out.size) hb1.size)).trans hc1
          have HW2 := Lib.hid (bthen (bthen HW.out hb1) hb2)
          clear hb1 HC hc1 hb2
          go_wp2_with fail
          go_roundw
          case rel => exact ⟨k + 1, s + n, by omega, by go_num, by go_num, Lib.hid HSS.out.symm, HT2, HW2⟩
          case measure => simp [intOf]; omega
    · have hkI : ¬ (k : Int) < Z.length := by omega
      have hst : s = totR Z := by rw [HS.out, HTR.out, List.take_of_length_le (by simp; omega)]
      have HAA : Hid (Z.all (fun l => rsOk l && ascB l) = true) := Lib.hid (by have h := HA.out; rwa [List.take_of_length_le (by omega)] at h)
      by_cases h64 : s ≤ 64
      · have h64I : ¬ (s : Int) > 64 := by omega
        have HK : Hid (kOk Z = true) := Lib.hid (by unfold kOk ksOk; rw [H1.out, HAA.out, ← hst]; simpa using h64)
        have HM := Lib.hid (l16Merge_any A Z c wr ((HX.out.below HW.out).more HW.out.size) (by omega) (by omega) (by omega))
        clear hst HAA HNO
        go_wp2_with fail
        refine HM.out.mono ?_
        rintro e w2 ⟨g, d, rfl, ho, hb2⟩
        have HO := Lib.hid ho
        have HB := Lib.hid (bthen HW.out hb2)
        clear ho hb2
        go_wp2_with fail
        exact bodyPost_ret (v := .tuple #[.slice (some ⟨g, 0, none⟩) (kwR Z).1.length d, .int .i64 ((kwR Z).2 : Nat), .bool true]) (by simp [results, Try.results6, go_sem]) rfl ⟨some ⟨g, 0, none⟩, d, by simp [kmO, kmN, HK.out], by simp only [kmO, HK.out]; exact own_base HO.out HW.out.size, HB.out⟩
      · have h64I : (s : Int) > 64 := by omega
        have hks : ksOk Z = false := by unfold ksOk; rw [← hst, show decide (s ≤ 64) = false by simp; omega, Bool.and_false]
        have HN := Lib.hid (HNO.out (by unfold kOk; rw [hks, Bool.and_false]) wr HW.out)
        clear hst HAA HNO hks
        go_wp2_with fail
        exact bodyPost_ret (v := .tuple #[.slice (some ⟨wr.heap.size, 0, none⟩) 0 0, .int .i64 0, .bool false]) (by simp [results, Try.results6, go_sem]) rfl HN.out
end Go.Proofs.Ytifjihpnhmemgaa
