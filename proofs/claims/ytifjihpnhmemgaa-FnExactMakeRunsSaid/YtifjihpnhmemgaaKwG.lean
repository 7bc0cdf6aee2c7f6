/- Merging several ascending lists of records: the program's side. -/
import Derived.Test.YtifjihpnhmemgaaKwI
namespace Go.Proofs.Ytifjihpnhmemgaa
open Go.RowKit
set_option linter.unusedVariables false
theorem areAsc_any (A : Option Addr) (cs : List (Int × Int)) (c : Nat) (w : World) (hx : Reads w w.heap.size 2 A cs.length (cmps cs)) (hl : cs.length ≤ 1099511627776) :
    Calls Try.prog 33 #[.slice A cs.length c] w fun e w' => e = .returned (.bool (rsOk cs && ascB cs)) ∧ Below w.heap.size w w' := by
  have HX := Lib.hid hx
  clear hx
  cases h1 : rsOk cs
  · have H1 := Lib.hid h1; clear h1
    go_enter Try.func33, Try.ntmps33
    go_wp2_with fail
    refine (IsValidRecords_any A cs c w HX.out hl).mono ?_
    rintro e w1 ⟨rfl, hb1⟩
    rw [H1.out]
    go_wp2_with fail
    go_ret
    exact ⟨rfl, hb1⟩
  · have H1 := Lib.hid h1; clear h1
    go_enter Try.func33, Try.ntmps33
    go_wp2_with fail
    refine (IsValidRecords_any A cs c w HX.out hl).mono ?_
    rintro e w1 ⟨rfl, hb1⟩
    rw [H1.out]
    go_wp2_with fail
    refine (IsSorted_any A cs c w1 ((HX.out.below hb1).more hb1.size) hl).mono ?_
    rintro e w2 ⟨rfl, hb2⟩
    go_wp2_with fail
    go_ret
    exact ⟨by simp, bthen hb1 hb2⟩
set_option maxRecDepth 100000 in
set_option maxHeartbeats 800000 in
theorem areLists_any (A : Option Addr) (Z : List Recs) (c : Nat) (w : World) (hx : ReadsQQ w w.heap.size A Z) (hl : Z.length + totR Z ≤ 1048576) :
    Calls Try.prog 24 #[.slice A Z.length c] w fun e w' => e = .returned (.bool (ksOk Z)) ∧ Below w.heap.size w w' := by
  have HX := Lib.hid hx
  clear hx
  have HTR : Hid (totR Z = (Z.map List.length).sum) := Lib.hid rfl
  go_enter Try.func24, Try.ntmps24
  go_wp2_with fail
  go_loopw [3, 8] (fun vt vi wr => ∃ (k s : Nat), k ≤ Z.length ∧ vi = .int .i64 (k : Nat) ∧ vt = .int .i64 (s : Nat) ∧ Hid (s = ((Z.map List.length).take k).sum) ∧ Hid ((Z.take k).all (fun l => rsOk l && ascB l) = true) ∧ Hid (Below w.heap.size w wr)) (fun _ vi _ => Z.length - (intOf vi).toNat)
  case atStart => exact ⟨0, 0, by omega, rfl, rfl, Lib.hid (by simp), Lib.hid (by simp), Lib.hid (Below.refl _ _)⟩
  case round =>
    obtain ⟨k, s, hk, rfl, rfl, HS, HA, HW⟩ := hrel
    have hsle := sum_take_le (Z.map List.length) k
    rw [← HS.out, ← HTR.out] at hsle
    by_cases hlt : k < Z.length
    · have hkI : (k : Int) < Z.length := by omega
      obtain ⟨ad, A', c', rfl, hc, hr⟩ := (HX.out.below HW.out).at_ hlt
      have hkm : k < (Z.map List.length).length := by simpa using hlt
      have hss := sum_take_succ hkm
      have hle1 := sum_take_le (Z.map List.length) (k + 1)
      have hzk : (Z.map List.length)[k] = Z[k].length := by simp
      rw [hzk, ← HS.out] at hss
      rw [hss, ← HTR.out] at hle1
      have HSS := Lib.hid hss
      have HC := Lib.hid (areAsc_any A' Z[k] c' wr (hr.more HW.out.size) (by omega))
      clear hss hzk hkm hr
      go_wp2_with fail
      refine HC.out.mono ?_
      rintro e w1 ⟨rfl, hb1⟩
      have HW1 := Lib.hid (bthen HW.out hb1)
      cases hd : (rsOk Z[k] && ascB Z[k])
      · have HF : Hid (ksOk Z = false) := Lib.hid (by unfold ksOk; rw [all_at (p := fun l => rsOk l && ascB l) hlt hd]; rfl)
        clear hd hb1
        go_wp2_with fail
        go_ret
        exact ⟨retb HF.out.symm, HW1.out⟩
      · have HT := Lib.hid (all_take (p := fun l => rsOk l && ascB l) hlt HA.out hd)
        clear hd hb1
        go_wp2_with fail
        go_roundw
        case rel => exact ⟨k + 1, s + Z[k].length, by omega, by go_num, by go_num, Lib.hid HSS.out.symm, HT, HW1⟩
        case measure => simp [intOf]; omega
    · have hkI : ¬ (k : Int) < Z.length := by omega
      have hst : s = totR Z := by rw [HS.out, HTR.out, List.take_of_length_le (by simp; omega)]
      have HAA : Hid (Z.all (fun l => rsOk l && ascB l) = true) := Lib.hid (by have h := HA.out; rwa [List.take_of_length_le (by omega)] at h)
      have HFI : Hid (ksOk Z = decide ((s : Int) ≤ 64)) := Lib.hid (by
        unfold ksOk; rw [HAA.out, ← hst]; simp; omega)
      clear hst HAA
      go_wp2_with fail
      go_ret
      exact ⟨retb HFI.out.symm, HW.out⟩
theorem ks_tot {Z : List Recs} (h : ksOk Z = true) : totR Z ≤ 64 := by
  unfold ksOk at h
  rw [Bool.and_eq_true, decide_eq_true_eq] at h
  exact h.2
/-- what the merge of lists gives back -/
def GotK (Z : List Recs) (w : World) (e : Ending) (w' : World) : Prop := ∃ D d, e = .returned (.tuple #[.slice D (kmO Z).length d, .int .i64 (kmN Z : Nat), .bool (kOk Z)]) ∧ w'.ownsRow w.heap.size 47 2 (.slice D (kmO Z).length d) (kmO Z).length (cmps (kmO Z)) ∧ Below w.heap.size w w'
set_option maxRecDepth 100000 in
set_option maxHeartbeats 800000 in
theorem KWayMerge_any (A : Option Addr) (Z : List Recs) (c : Nat) (w : World) (hx : ReadsQQ w w.heap.size A Z) (hl : Z.length + totR Z ≤ 1048576) :
    Calls Try.prog 8 #[.slice A Z.length c] w fun e w' => GotK Z w e w' := by
  have HX := Lib.hid hx
  clear hx
  cases h1 : inB (Z.length : Int) 1 16
  · have HK : Hid (kOk Z = false) := Lib.hid (by unfold kOk; rw [h1]; rfl)
    have H1 := Lib.hid h1
    clear h1
    go_enter Try.func8, Try.ntmps8
    go_wp2_with (go_at_call 23; refine (in_any _ _ _ _).mono ?_; rintro e w' ⟨rfl, rfl⟩; rw [H1.out])
    exact bodyPost_ret (v := .tuple #[.slice none 0 0, .int .i64 0, .bool false]) (by simp [results, Try.results8, go_sem]) rfl ⟨none, 0, by simp [kmO, kmN, HK.out], by simp only [kmO, HK.out]; exact World.ownsRow_nil _ _ _ _, Below.refl _ _⟩
  · obtain ⟨k1, k2⟩ := inB_iff.1 h1
    have H1 := Lib.hid h1
    clear h1
    cases h2 : ksOk Z
    · have HK : Hid (kOk Z = false) := Lib.hid (by unfold kOk; rw [H1.out, h2]; rfl)
      have H2 := Lib.hid h2
      clear h2
      go_enter Try.func8, Try.ntmps8
      go_wp2_with (go_at_call 23; refine (in_any _ _ _ _).mono ?_; rintro e w' ⟨rfl, rfl⟩; rw [H1.out])
      refine (areLists_any A Z c w HX.out hl).mono ?_
      rintro e w1 ⟨rfl, hb1⟩
      rw [H2.out]
      go_wp2_with fail
      exact bodyPost_ret (v := .tuple #[.slice none 0 0, .int .i64 0, .bool false]) (by simp [results, Try.results8, go_sem]) rfl ⟨none, 0, by simp [kmO, kmN, HK.out], by simp only [kmO, HK.out]; exact World.ownsRow_nil _ _ _ _, hb1⟩
    · have HK : Hid (kOk Z = true) := Lib.hid (by unfold kOk; rw [H1.out, h2]; rfl)
      have h64 := ks_tot h2
      have H2 := Lib.hid h2
      clear h2
      go_enter Try.func8, Try.ntmps8
      go_wp2_with (go_at_call 23; refine (in_any _ _ _ _).mono ?_; rintro e w' ⟨rfl, rfl⟩; rw [H1.out])
      refine (areLists_any A Z c w HX.out hl).mono ?_
      rintro e w1 ⟨rfl, hb1⟩
      rw [H2.out]
      go_wp2_with fail
      refine (kWay_any A Z c w1 ((HX.out.below hb1).more hb1.size) (by omega) (by omega) h64).mono ?_
      rintro e w2 ⟨g, d, rfl, ho, hb2⟩
      have HO := Lib.hid ho
      have HB := Lib.hid (bthen hb1 hb2)
      have hsz := hb1.size
      clear ho hb2
      go_wp2_with fail
      exact bodyPost_ret (v := .tuple #[.slice (some ⟨g, 0, none⟩) (kwR Z).1.length d, .int .i64 ((kwR Z).2 : Nat), .bool true]) (by simp [results, Try.results8, go_sem]) rfl ⟨some ⟨g, 0, none⟩, d, by simp [kmO, kmN, HK.out], by simp only [kmO, HK.out]; exact own_base HO.out hsz, HB.out⟩
end Go.Proofs.Ytifjihpnhmemgaa
