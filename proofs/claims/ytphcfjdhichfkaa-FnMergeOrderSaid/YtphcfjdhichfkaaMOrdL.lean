/- The walk of the law on the merge order. -/
import Derived.Test.YtphcfjdhichfkaaHuffM
import Derived.Test.YtphcfjdhichfkaaMOrdS
import Derived.Test.YtphcfjdhichfkaaDrawP
import Derived.Test.YtphcfjdhichfkaaPass
namespace Go.Proofs.Ytphcfjdhichfkaa
open Go.RowKit
set_option linter.unusedVariables false
theorem preS_stepM {zs : List Int} {k : Nat} (h : 0 < k) : preS zs 2 (k + 1 - 1) = preS zs 2 (k - 1) + (zs.take (k + 1)).sum := by
  have := preS_snoc zs (k - 1) 2
  rw [show k - 1 + 1 = k by omega, show 2 + (k - 1) = k + 1 by omega] at this
  rw [show k + 1 - 1 = k by omega]; exact this
theorem sum_stepM {zs : List Int} {k : Nat} (h : k < zs.length) : (zs.take (k + 1)).sum = (zs.take k).sum + zs[k] := by rw [List.take_succ_eq_append_getElem h, List.sum_append]; simp
/-- one pass fewer -/
theorem pass_law {r y : Int} (h : passOk r y = true) (hr : 1 < r) : passV r y = passV ((r + y - 1) / y) y + 1 := by
  have hh := h
  simp only [passOk, Bool.and_eq_true] at h
  obtain ⟨h1, h2⟩ := h
  obtain ⟨r1, r2⟩ := inB_iff.1 h1
  obtain ⟨y1, y2⟩ := inB_iff.1 h2
  have hl := pass_less r y hr y1
  have h3 : passOk ((r + y - 1) / y) y = true := by
    simp only [passOk, Bool.and_eq_true]
    exact ⟨inB_iff.2 ⟨by omega, by omega⟩, h2⟩
  rw [passV, if_pos hh, passV, if_pos h3, passN_step y y1 100000 r hr (by omega)]
theorem passN_bd (y : Int) : ∀ (f : Nat) (r : Int), 0 ≤ passN y f r ∧ passN y f r ≤ f := by
  intro f
  induction f with
  | zero => intro r; exact ⟨Int.le_refl _, Int.le_refl _⟩
  | succ f ih =>
    intro r
    have := ih ((r + y - 1) / y)
    rw [passN]
    split <;> omega
theorem passV_bd (r y : Int) : 0 ≤ passV r y ∧ passV r y ≤ 100000 := by
  unfold passV
  split
  · exact passN_bd y 100000 r
  · omega
set_option maxRecDepth 100000 in
set_option maxHeartbeats 6400000 in
theorem FnMergeOrder_any (A : Option Addr) (bs : List Nat) (c : Nat) (w : World) (hr : Reads w w.heap.size 1 A bs.length (byts bs)) (hm : bs.length ≤ maxLen) (hbb : ∀ b ∈ bs, b ≤ 255) :
    Calls Try.prog 8 #[.slice A bs.length c] w fun e w' => e = .returned (.bool true) ∧ Below w.heap.size w w' := by
  have HVB := Lib.hid (fun w => vBig_any A bs.length c w hm)
  by_cases hbig : 65536 < bs.length
  case pos =>
    have HB := Lib.hid (show decide (65536 < bs.length) = true by simpa using hbig)
    clear hbig
    go_enter Try.func8, Try.ntmps8
    go_wp2_with (go_at_call 9; refine (HVB.out _).mono ?_; rintro e w' ⟨rfl, rfl⟩; rw [HB.out])
    go_ret
    exact ⟨rfl, Below.refl _ _⟩
  have hsm : bs.length ≤ 65536 := by omega
  have HB := Lib.hid (show decide (65536 < bs.length) = false by simpa using hbig)
  clear hbig
  have HD := Lib.hid (DrawMergeOrder_any A bs c w hr hbb hsm)
  have HDP := Lib.hid (fun w' (h : Below w.heap.size w w') => DrawPassCount_any A bs c w' ((hr.below h).more h.size) hbb hsm)
  clear hr hbb hsm
  have x1 : ∀ x : Int, (x != x) = false := by simp
  have x2 : ∀ x : Bool, (x != x) = false := by simp
  have x3 : ∀ x : Int, (x == x) = true := by simp
  go_enter Try.func8, Try.ntmps8
  go_wp2_with (go_at_call 9; refine (HVB.out _).mono ?_; rintro e w' ⟨rfl, rfl⟩; rw [HB.out])
  refine HD.out.mono ?_
  rintro e w1 ⟨D, d, zs, y, rfl, hO, h50, hy, hb1⟩
  go_wp2_with fail
  refine (MergeOrder_any D zs d y _ (Reads.of_own hO) (by omega)).mono ?_
  rintro e w2 ⟨L1, k1, rfl, o1, hb2⟩
  have hO2 := own_below hO hb2 (Nat.le_refl _)
  have hB2 := hb1.trans (hb2.mono hb1.size)
  go_wp2_with fail
  refine (sMergeOrder_any D zs d y _ (Reads.of_own hO2) (by omega)).mono ?_
  rintro e w3 ⟨L2, k2, rfl, o2, hb3⟩
  have hO3 := own_below hO2 hb3 (Nat.le_refl _)
  have o13 := own_below o1 hb3 (Nat.le_refl _)
  have hB3 := hB2.trans (hb3.mono hB2.size)
  have hll := mov_len zs y
  have HF := Lib.hid (fun h => mov_facts (zs := zs) (y := y) h)
  have HNO : Hid (moOk zs y = false → moV zs y = []) := Lib.hid (fun h => by simp [moV, h])
  clear hO hO2 hb1 hb2 hb3 hB2 o1
  generalize moV zs y = L at *
  generalize moOk zs y = ok at *
  obtain ⟨s, hs⟩ : ∃ s, sumW L = s := ⟨_, rfl⟩
  rw [hs] at HF ⊢
  have HS := Lib.hid hs
  clear hs
  go_wp2_with (go_at_call 15; refine (vInts_any L1 L2 L L k1 k2 w3 (Reads.of_own o13) (Reads.of_own o2) (by omega) (by omega)).mono ?_; rintro e w4 ⟨rfl, n4, rfl⟩; simp only [decide_true])
  have hO4 : (w3.drewN n4).ownsRow w.heap.size 3 1 (.slice D zs.length d) zs.length (ints zs) := hO3
  have o14 := (show (w3.drewN n4).ownsRow _ 3 1 (.slice L1 L.length k1) L.length (ints L) from o13)
  have hB4 : Below w.heap.size w (w3.drewN n4) := below_drewN hB3 n4
  clear hO3 o13 o2 hB3
  generalize w3.drewN n4 = w4 at *
  refine (HDP.out w4 hB4).mono ?_
  rintro e w5 ⟨r, yy, rfl, hrb, hyb, hb5⟩
  have hO5 := own_below hO4 hb5 (Nat.le_refl _)
  have o15 := own_below o14 hb5 (Nat.le_refl _)
  have hB5 := hB4.trans (hb5.mono hB4.size)
  clear hO4 o14 hB4 hb5
  have HPL := Lib.hid (fun h h2 => pass_law (r := r) (y := yy) h h2)
  have hpb := passV_bd r yy
  have HPV := Lib.hid (fun r => passV_bd r yy)
  obtain ⟨pv, hpv⟩ : ∃ pv, passV r yy = pv := ⟨_, rfl⟩
  obtain ⟨po, hpo⟩ : ∃ po, passOk r yy = po := ⟨_, rfl⟩
  rw [hpv] at hpb
  have HV := Lib.hid hpv; have HO := Lib.hid hpo
  clear hpv hpo
  cases po
  case false =>
    cases hok : ok
    case false =>
      have hL : L = [] := HNO.out hok
      subst hL
      clear hok
      go_wp2_with (first | (go_at_call 34; refine (PassCount_any _ _ _).mono ?_; rintro e w' ⟨rfl, rfl⟩; rw [HV.out, HO.out]) | (go_at_call 35; refine (sPassCount_any _ _ _).mono ?_; rintro e w' ⟨rfl, rfl⟩; rw [HV.out, HO.out]) | (go_at_call 34; refine (PassCount_any _ _ _).mono ?_; rintro e w' ⟨rfl, rfl⟩; rw [HP2.out]))
      go_ret
      exact ⟨rfl, hB5⟩
    case true =>
      obtain ⟨hn, hs0, hs1, hv1, hv2, hv3, hv4⟩ := HF.out hok
      have HN := Lib.hid hn; have HV1 := Lib.hid hv1; have HV2 := Lib.hid hv2; have HV3 := Lib.hid hv3
      have hm64 := mulM (n := zs.length) (k := 64) (M := zs.sum) (by omega) hs0
      clear hok hn hv1 hv2 hv3 hv4 HNO HF
      go_wp2_with (first | (go_at_call 34; refine (PassCount_any _ _ _).mono ?_; rintro e w' ⟨rfl, rfl⟩; rw [HV.out, HO.out]) | (go_at_call 35; refine (sPassCount_any _ _ _).mono ?_; rintro e w' ⟨rfl, rfl⟩; rw [HV.out, HO.out]) | (go_at_call 34; refine (PassCount_any _ _ _).mono ?_; rintro e w' ⟨rfl, rfl⟩; rw [HP2.out]))
      go_loopw [19, 20, 21] (fun vs vt vi wr => ∃ (k : Nat) (t m : Int), w5 = wr ∧ k ≤ zs.length ∧ vi = .int .i64 (k : Nat) ∧ vs = .int .i64 t ∧ vt = .int .i64 m ∧ Hid (t = (zs.take k).sum) ∧ Hid (m = preS zs 2 (k - 1))) (fun _ _ vi _ => zs.length - (intOf vi).toNat)
      case atStart => exact ⟨0, 0, 0, rfl, by omega, rfl, rfl, rfl, Lib.hid rfl, Lib.hid rfl⟩
      case round =>
        obtain ⟨k, t, m, rfl, hk, rfl, rfl, rfl, HT, HM⟩ := hrel
        have hs2 := take_le HN.out k
        have hs3 := take_nonneg HN.out k
        rw [← HT.out] at hs2 hs3
        have ht2 := preS_le HN.out (k - 1) 2
        have ht3 := preS_nonneg (take_nonneg HN.out) (k - 1) 2
        have ht4 := mulM (n := k - 1) (k := 64) (M := zs.sum) (by omega) hs0
        rw [← HM.out] at ht2 ht3
        by_cases hlt : k < zs.length
        · obtain ⟨gL, cL, eL, -, hgL, -⟩ := own_some hO5 (by omega)
          cases eL
          have c0 := hO5.cellAt k (by omega)
          rw [ints_get hlt] at c0
          have hst := sum_stepM hlt
          have hs4 := take_le HN.out (k + 1)
          have hR := HN.out zs[k] (List.getElem_mem hlt)
          have hkI : (k : Int) < zs.length := by omega
          rw [← HT.out] at hst
          have HPS := Lib.hid (fun h => preS_stepM (zs := zs) (k := k) h)
          obtain ⟨x, hx⟩ : ∃ x, zs[k] = x := ⟨_, rfl⟩
          rw [hx] at c0 hR hst
          have HX := Lib.hid hx
          have HS9 : Hid (t + x = (zs.take (k + 1)).sum) := Lib.hid hst.symm
          have hst2 : t + x ≤ 4000000 := by omega
          have hst3 : 0 ≤ t + x := by omega
          clear hx hst hs4
          by_cases hk0 : 0 < k
          · have k1 : (k : Int) > 0 := by omega
            have k2 : (0 : Int) < (k : Int) := by omega
            have HT9 : Hid (m + (t + x) = preS zs 2 (k + 1 - 1)) := Lib.hid (by rw [HPS.out hk0, HM.out, HS9.out])
            go_wp2_with fail
            go_roundw
            case rel => exact ⟨k + 1, t + x, m + (t + x), trivial, by omega, by go_num, rfl, rfl, HS9, HT9⟩
            case measure => simp [intOf]; omega
          · obtain rfl : k = 0 := by omega
            have k1 : ¬ (0 : Int) > 0 := by omega
            have HT9 : Hid (m = preS zs 2 (0 + 1 - 1)) := HM
            go_wp2_with fail
            go_roundw
            case rel => exact ⟨1, t + x, m, trivial, by omega, by go_num, rfl, rfl, HS9, HT9⟩
            case measure => simp [intOf]; omega
        · obtain rfl : k = zs.length := by omega
          have hkI : ¬ (zs.length : Int) < zs.length := by omega
          have hts : t = zs.sum := by rw [HT.out, List.take_of_length_le (Nat.le_refl _)]
          have hsm : s ≤ m := by rw [HM.out]; exact HV1.out
          have HLT : Hid (∀ q : Nat, L.length = q + 1 → ∃ h : q < L.length, L[q] = t) := Lib.hid (by
            intro q hq
            have hne : L ≠ [] := by intro e; rw [e] at hq; cases hq
            refine ⟨by omega, ?_⟩
            rw [hts, ← HV3.out hne, List.getLast_eq_getElem]
            congr 1
            omega)
          clear ht2 ht3 ht4 hs2 hs3 hm64 hs0 hs1 hts
          by_cases h2 : zs.length < 2
          · have h2I : (zs.length : Int) < 2 := by omega
            have hL := HV2.out.2 h2
            subst hL
            go_wp2_with fail
            go_ret
            exact ⟨rfl, hB5⟩
          · have h2I : ¬ (zs.length : Int) < 2 := by omega
            have hLn : L.length ≠ 0 := fun e => h2 (HV2.out.1 (List.eq_nil_of_length_eq_zero e))
            obtain ⟨q, hq⟩ : ∃ q, L.length = q + 1 := ⟨L.length - 1, by omega⟩
            obtain ⟨hql, hqt⟩ := HLT.out q hq
            obtain ⟨gQ, cQ, eQ, -, hgQ, -⟩ := own_some o15 (by omega)
            cases eQ
            have cq := o15.cellAt q (by omega)
            rw [ints_get hql, hqt] at cq
            have l0 : ((L.length : Int) == 0) = false := by rw [beq_eq_false_iff_ne]; omega
            have l1 : ((L.length : Int) - 1) = (q : Int) := by omega
            have l2 : (q : Int) < L.length := by omega
            have HQ := Lib.hid hq
            clear hq hqt hLn
            go_wp2_with fail
            go_ret
            exact ⟨rfl, hB5⟩
  case true =>
    by_cases hr1 : 1 < r
    case neg =>
      have hr2 : ¬ r > 1 := hr1
      cases hok : ok
      case false =>
        have hL : L = [] := HNO.out hok
        subst hL
        clear hok
        go_wp2_with (first | (go_at_call 34; refine (PassCount_any _ _ _).mono ?_; rintro e w' ⟨rfl, rfl⟩; rw [HV.out, HO.out]) | (go_at_call 35; refine (sPassCount_any _ _ _).mono ?_; rintro e w' ⟨rfl, rfl⟩; rw [HV.out, HO.out]) | (go_at_call 34; refine (PassCount_any _ _ _).mono ?_; rintro e w' ⟨rfl, rfl⟩; rw [HP2.out]))
        go_ret
        exact ⟨rfl, hB5⟩
      case true =>
        obtain ⟨hn, hs0, hs1, hv1, hv2, hv3, hv4⟩ := HF.out hok
        have HN := Lib.hid hn; have HV1 := Lib.hid hv1; have HV2 := Lib.hid hv2; have HV3 := Lib.hid hv3
        have hm64 := mulM (n := zs.length) (k := 64) (M := zs.sum) (by omega) hs0
        clear hok hn hv1 hv2 hv3 hv4 HNO HF
        go_wp2_with (first | (go_at_call 34; refine (PassCount_any _ _ _).mono ?_; rintro e w' ⟨rfl, rfl⟩; rw [HV.out, HO.out]) | (go_at_call 35; refine (sPassCount_any _ _ _).mono ?_; rintro e w' ⟨rfl, rfl⟩; rw [HV.out, HO.out]) | (go_at_call 34; refine (PassCount_any _ _ _).mono ?_; rintro e w' ⟨rfl, rfl⟩; rw [HP2.out]))
        go_loopw [19, 20, 21] (fun vs vt vi wr => ∃ (k : Nat) (t m : Int), w5 = wr ∧ k ≤ zs.length ∧ vi = .int .i64 (k : Nat) ∧ vs = .int .i64 t ∧ vt = .int .i64 m ∧ Hid (t = (zs.take k).sum) ∧ Hid (m = preS zs 2 (k - 1))) (fun _ _ vi _ => zs.length - (intOf vi).toNat)
        case atStart => exact ⟨0, 0, 0, rfl, by omega, rfl, rfl, rfl, Lib.hid rfl, Lib.hid rfl⟩
        case round =>
          obtain ⟨k, t, m, rfl, hk, rfl, rfl, rfl, HT, HM⟩ := hrel
          have hs2 := take_le HN.out k
          have hs3 := take_nonneg HN.out k
          rw [← HT.out] at hs2 hs3
          have ht2 := preS_le HN.out (k - 1) 2
          have ht3 := preS_nonneg (take_nonneg HN.out) (k - 1) 2
          have ht4 := mulM (n := k - 1) (k := 64) (M := zs.sum) (by omega) hs0
          rw [← HM.out] at ht2 ht3
          by_cases hlt : k < zs.length
          · obtain ⟨gL, cL, eL, -, hgL, -⟩ := own_some hO5 (by omega)
            cases eL
            have c0 := hO5.cellAt k (by omega)
            rw [ints_get hlt] at c0
            have hst := sum_stepM hlt
            have hs4 := take_le HN.out (k + 1)
            have hR := HN.out zs[k] (List.getElem_mem hlt)
            have hkI : (k : Int) < zs.length := by omega
            rw [← HT.out] at hst
            have HPS := Lib.hid (fun h => preS_stepM (zs := zs) (k := k) h)
            obtain ⟨x, hx⟩ : ∃ x, zs[k] = x := ⟨_, rfl⟩
            rw [hx] at c0 hR hst
            have HX := Lib.hid hx
            have HS9 : Hid (t + x = (zs.take (k + 1)).sum) := Lib.hid hst.symm
            have hst2 : t + x ≤ 4000000 := by omega
            have hst3 : 0 ≤ t + x := by omega
            clear hx hst hs4
            by_cases hk0 : 0 < k
            · have k1 : (k : Int) > 0 := by omega
              have k2 : (0 : Int) < (k : Int) := by omega
              have HT9 : Hid (m + (t + x) = preS zs 2 (k + 1 - 1)) := Lib.hid (by rw [HPS.out hk0, HM.out, HS9.out])
              go_wp2_with fail
              go_roundw
              case rel => exact ⟨k + 1, t + x, m + (t + x), trivial, by omega, by go_num, rfl, rfl, HS9, HT9⟩
              case measure => simp [intOf]; omega
            · obtain rfl : k = 0 := by omega
              have k1 : ¬ (0 : Int) > 0 := by omega
              have HT9 : Hid (m = preS zs 2 (0 + 1 - 1)) := HM
              go_wp2_with fail
              go_roundw
              case rel => exact ⟨1, t + x, m, trivial, by omega, by go_num, rfl, rfl, HS9, HT9⟩
              case measure => simp [intOf]; omega
          · obtain rfl : k = zs.length := by omega
            have hkI : ¬ (zs.length : Int) < zs.length := by omega
            have hts : t = zs.sum := by rw [HT.out, List.take_of_length_le (Nat.le_refl _)]
            have hsm : s ≤ m := by rw [HM.out]; exact HV1.out
            have HLT : Hid (∀ q : Nat, L.length = q + 1 → ∃ h : q < L.length, L[q] = t) := Lib.hid (by
              intro q hq
              have hne : L ≠ [] := by intro e; rw [e] at hq; cases hq
              refine ⟨by omega, ?_⟩
              rw [hts, ← HV3.out hne, List.getLast_eq_getElem]
              congr 1
              omega)
            clear ht2 ht3 ht4 hs2 hs3 hm64 hs0 hs1 hts
            by_cases h2 : zs.length < 2
            · have h2I : (zs.length : Int) < 2 := by omega
              have hL := HV2.out.2 h2
              subst hL
              go_wp2_with fail
              go_ret
              exact ⟨rfl, hB5⟩
            · have h2I : ¬ (zs.length : Int) < 2 := by omega
              have hLn : L.length ≠ 0 := fun e => h2 (HV2.out.1 (List.eq_nil_of_length_eq_zero e))
              obtain ⟨q, hq⟩ : ∃ q, L.length = q + 1 := ⟨L.length - 1, by omega⟩
              obtain ⟨hql, hqt⟩ := HLT.out q hq
              obtain ⟨gQ, cQ, eQ, -, hgQ, -⟩ := own_some o15 (by omega)
              cases eQ
              have cq := o15.cellAt q (by omega)
              rw [ints_get hql, hqt] at cq
              have l0 : ((L.length : Int) == 0) = false := by rw [beq_eq_false_iff_ne]; omega
              have l1 : ((L.length : Int) - 1) = (q : Int) := by omega
              have l2 : (q : Int) < L.length := by omega
              have HQ := Lib.hid hq
              clear hq hqt hLn
              go_wp2_with fail
              go_ret
              exact ⟨rfl, hB5⟩
    case pos =>
      have hr2 : r > 1 := hr1
      have hpl := HPL.out HO.out hr1
      rw [HV.out] at hpl
      obtain ⟨y1, y2⟩ : 2 ≤ yy ∧ yy ≤ 16 := by
        have h := HO.out
        simp only [passOk, Bool.and_eq_true] at h
        exact inB_iff.1 h.2
      obtain ⟨q, hq⟩ : ∃ q, (r + yy - 1) / yy = q := ⟨_, rfl⟩
      rw [hq] at hpl
      have hpq := HPV.out q
      obtain ⟨p2, hp2⟩ : ∃ p2, passV q yy = p2 := ⟨_, rfl⟩
      rw [hp2] at hpl hpq
      have HP2 := Lib.hid hp2
      have HQQ := Lib.hid hq
      have hxy : (pv == p2 + 1) = true := by rw [beq_iff_eq]; exact hpl
      have hxn : (pv != p2 + 1) = false := by simpa using hpl
      have y3 : (yy == 0) = false := by rw [beq_eq_false_iff_ne]; omega
      have y4 : yy ≠ 0 := by omega
      clear hp2 HPL
      cases hok : ok
      case false =>
        have hL : L = [] := HNO.out hok
        subst hL
        clear hok
        go_wp2_with (first | (go_at_call 34; refine (PassCount_any _ _ _).mono ?_; rintro e w' ⟨rfl, rfl⟩; rw [HV.out, HO.out]) | (go_at_call 35; refine (sPassCount_any _ _ _).mono ?_; rintro e w' ⟨rfl, rfl⟩; rw [HV.out, HO.out]) | (go_at_call 34; refine (PassCount_any _ _ _).mono ?_; rintro e w' ⟨rfl, rfl⟩; rw [HP2.out]))
        go_ret
        exact ⟨rfl, hB5⟩
      case true =>
        obtain ⟨hn, hs0, hs1, hv1, hv2, hv3, hv4⟩ := HF.out hok
        have HN := Lib.hid hn; have HV1 := Lib.hid hv1; have HV2 := Lib.hid hv2; have HV3 := Lib.hid hv3
        have hm64 := mulM (n := zs.length) (k := 64) (M := zs.sum) (by omega) hs0
        clear hok hn hv1 hv2 hv3 hv4 HNO HF
        go_wp2_with (first | (go_at_call 34; refine (PassCount_any _ _ _).mono ?_; rintro e w' ⟨rfl, rfl⟩; rw [HV.out, HO.out]) | (go_at_call 35; refine (sPassCount_any _ _ _).mono ?_; rintro e w' ⟨rfl, rfl⟩; rw [HV.out, HO.out]) | (go_at_call 34; refine (PassCount_any _ _ _).mono ?_; rintro e w' ⟨rfl, rfl⟩; rw [HP2.out]))
        go_loopw [19, 20, 21] (fun vs vt vi wr => ∃ (k : Nat) (t m : Int), w5 = wr ∧ k ≤ zs.length ∧ vi = .int .i64 (k : Nat) ∧ vs = .int .i64 t ∧ vt = .int .i64 m ∧ Hid (t = (zs.take k).sum) ∧ Hid (m = preS zs 2 (k - 1))) (fun _ _ vi _ => zs.length - (intOf vi).toNat)
        case atStart => exact ⟨0, 0, 0, rfl, by omega, rfl, rfl, rfl, Lib.hid rfl, Lib.hid rfl⟩
        case round =>
          obtain ⟨k, t, m, rfl, hk, rfl, rfl, rfl, HT, HM⟩ := hrel
          have hs2 := take_le HN.out k
          have hs3 := take_nonneg HN.out k
          rw [← HT.out] at hs2 hs3
          have ht2 := preS_le HN.out (k - 1) 2
          have ht3 := preS_nonneg (take_nonneg HN.out) (k - 1) 2
          have ht4 := mulM (n := k - 1) (k := 64) (M := zs.sum) (by omega) hs0
          rw [← HM.out] at ht2 ht3
          by_cases hlt : k < zs.length
          · obtain ⟨gL, cL, eL, -, hgL, -⟩ := own_some hO5 (by omega)
            cases eL
            have c0 := hO5.cellAt k (by omega)
            rw [ints_get hlt] at c0
            have hst := sum_stepM hlt
            have hs4 := take_le HN.out (k + 1)
            have hR := HN.out zs[k] (List.getElem_mem hlt)
            have hkI : (k : Int) < zs.length := by omega
            rw [← HT.out] at hst
            have HPS := Lib.hid (fun h => preS_stepM (zs := zs) (k := k) h)
            obtain ⟨x, hx⟩ : ∃ x, zs[k] = x := ⟨_, rfl⟩
            rw [hx] at c0 hR hst
            have HX := Lib.hid hx
            have HS9 : Hid (t + x = (zs.take (k + 1)).sum) := Lib.hid hst.symm
            have hst2 : t + x ≤ 4000000 := by omega
            have hst3 : 0 ≤ t + x := by omega
            clear hx hst hs4
            by_cases hk0 : 0 < k
            · have k1 : (k : Int) > 0 := by omega
              have k2 : (0 : Int) < (k : Int) := by omega
              have HT9 : Hid (m + (t + x) = preS zs 2 (k + 1 - 1)) := Lib.hid (by rw [HPS.out hk0, HM.out, HS9.out])
              go_wp2_with fail
              go_roundw
              case rel => exact ⟨k + 1, t + x, m + (t + x), trivial, by omega, by go_num, rfl, rfl, HS9, HT9⟩
              case measure => simp [intOf]; omega
            · obtain rfl : k = 0 := by omega
              have k1 : ¬ (0 : Int) > 0 := by omega
              have HT9 : Hid (m = preS zs 2 (0 + 1 - 1)) := HM
              go_wp2_with fail
              go_roundw
              case rel => exact ⟨1, t + x, m, trivial, by omega, by go_num, rfl, rfl, HS9, HT9⟩
              case measure => simp [intOf]; omega
          · obtain rfl : k = zs.length := by omega
            have hkI : ¬ (zs.length : Int) < zs.length := by omega
            have hts : t = zs.sum := by rw [HT.out, List.take_of_length_le (Nat.le_refl _)]
            have hsm : s ≤ m := by rw [HM.out]; exact HV1.out
            have HLT : Hid (∀ q : Nat, L.length = q + 1 → ∃ h : q < L.length, L[q] = t) := Lib.hid (by
              intro q hq
              have hne : L ≠ [] := by intro e; rw [e] at hq; cases hq
              refine ⟨by omega, ?_⟩
              rw [hts, ← HV3.out hne, List.getLast_eq_getElem]
              congr 1
              omega)
            clear ht2 ht3 ht4 hs2 hs3 hm64 hs0 hs1 hts
            by_cases h2 : zs.length < 2
            · have h2I : (zs.length : Int) < 2 := by omega
              have hL := HV2.out.2 h2
              subst hL
              go_wp2_with fail
              go_ret
              exact ⟨rfl, hB5⟩
            · have h2I : ¬ (zs.length : Int) < 2 := by omega
              have hLn : L.length ≠ 0 := fun e => h2 (HV2.out.1 (List.eq_nil_of_length_eq_zero e))
              obtain ⟨q, hq⟩ : ∃ q, L.length = q + 1 := ⟨L.length - 1, by omega⟩
              obtain ⟨hql, hqt⟩ := HLT.out q hq
              obtain ⟨gQ, cQ, eQ, -, hgQ, -⟩ := own_some o15 (by omega)
              cases eQ
              have cq := o15.cellAt q (by omega)
              rw [ints_get hql, hqt] at cq
              have l0 : ((L.length : Int) == 0) = false := by rw [beq_eq_false_iff_ne]; omega
              have l1 : ((L.length : Int) - 1) = (q : Int) := by omega
              have l2 : (q : Int) < L.length := by omega
              have HQ := Lib.hid hq
              clear hq hqt hLn
              go_wp2_with fail
              go_ret
              exact ⟨rfl, hB5⟩
end Go.Proofs.Ytphcfjdhichfkaa
