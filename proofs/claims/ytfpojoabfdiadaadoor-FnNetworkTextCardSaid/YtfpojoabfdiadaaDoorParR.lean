/- A number read out of a text: the reference's. -/
import Derived.Test.YtfpojoabfdiadaaDoorParS
namespace Go.Proofs.YtfpojoabfdiadaaDoor
open Go.RowKit
set_option linter.unusedVariables false
theorem dval_take {t : List UInt8} {i : Nat} (h : i < t.length) : dval (t.take (i + 1)) = 10 * dval (t.take i) + ((t[i].toNat : Int) - 48) := by
  unfold dval
  rw [List.take_succ_eq_append_getElem h, List.foldl_append]
  rfl
theorem digs_take {t : List UInt8} {i : Nat} (h : i < t.length) : digs (t.take (i + 1)) = (digs (t.take i) && (decide (48 ≤ t[i].toNat) && decide (t[i].toNat ≤ 57))) := by
  unfold digs
  rw [List.take_succ_eq_append_getElem h, List.all_append]
  simp
theorem digs_no {t : List UInt8} {i : Nat} (h : i < t.length) (hc : ¬ (48 ≤ t[i].toNat ∧ t[i].toNat ≤ 57)) : digs t = false := by
  cases hd : digs t with
  | false => rfl
  | true =>
    have := List.all_eq_true.1 hd t[i] (List.getElem_mem h)
    simp only [Bool.and_eq_true, decide_eq_true_eq] at this
    exact absurd this hc
theorem sRead_no {l : List UInt8} (h : sOk l = false) : sRead l = (0, false) := by unfold sRead; rw [h]; rfl
theorem pow_bd {i : Nat} (h : i ≤ 5) : 10 ^ i ≤ 100000 := Nat.pow_le_pow_right (by omega) h
set_option maxRecDepth 100000 in
set_option maxHeartbeats 1600000 in
theorem l1Read_any (l : List UInt8) (w : World) (hl : l.length ≤ 1048576) :
    Calls Tryd.prog 27 #[.string (bs l)] w fun e w' => e = .returned (.tuple #[.int .i64 (sRead l).1, .bool (sRead l).2]) ∧ ∃ k, w' = w.drewN k := by
  have hsz : (bs l).size = l.length := bs_size l
  go_enter Tryd.func27, Tryd.ntmps27
  go_upto_region 2 with fail
  go_cut [15] from 8 to 15 (fun v wc => v = .bool (decide (1 < l.length ∧ l.head? = some 45)) ∧ wc = w)
  case first =>
    by_cases h1 : 1 < l.length
    · have h1' : (1 : Int) < l.length := by omega
      obtain ⟨c, r, rfl⟩ : ∃ c r, l = c :: r := by cases l with | nil => simp at h1 | cons c r => exact ⟨c, r, rfl⟩
      have hx := bs_get (l := c :: r) (i := 0) (by simp)
      simp only [List.getElem_cons_zero] at hx
      have hp : (0 : Nat) < (bs (c :: r)).size := by rw [hsz]; omega
      have hp2 : (1 : Int) < (bs (c :: r)).size := by rw [hsz]; exact h1'
      by_cases h45 : c = 45
      · subst h45
        go_wp2_with fail
        go_meet
        exact ⟨by have h2 : 1 < (45 :: r).length := h1; simp only [h2, true_and, List.head?_cons, decide_true], rfl⟩
      · have ht : ((c.toNat : Int) == 45) = false := by
          simp only [beq_eq_false_iff_ne, ne_eq]
          intro h
          exact h45 (UInt8.toNat_inj.1 (by simp; omega))
        go_wp2_with fail
        go_meet
        exact ⟨by simp [h45], rfl⟩
    · have h1' : ¬ (1 : Int) < (bs l).size := by rw [hsz]; omega
      go_wp2_with fail
      go_meet
      exact ⟨by simp [h1], rfl⟩
  case rest =>
    obtain ⟨rfl, rfl⟩ := hcut
    have hsT : sT l = if (decide (1 < l.length ∧ l.head? = some 45)) = true then l.drop 1 else l := by simp only [sT, decide_eq_true_eq]
    have hp1 : decide (1 < l.length ∧ l.head? = some 45) = true → 1 ≤ l.length := by simp only [decide_eq_true_eq]; intro h; omega
    generalize decide (1 < l.length ∧ l.head? = some 45) = pb at *
    go_upto_if 15 with fail
    go_cut [4] from 16 to 17 (fun v wd => v = .string (bs (sT l)) ∧ wd = wc)
    case first =>
      cases pb
      · have HT := Lib.hid (show sT l = l from by rw [hsT]; rfl)
        clear hsT
        go_wp2_with fail
        go_meet
        exact ⟨by rw [HT.out], rfl⟩
      · have hl1 := hp1 rfl
        have HT := Lib.hid (show sT l = l.drop 1 from by rw [hsT]; rfl)
        clear hsT
        have hz : (1 : Int) ≤ (bs l).size := by rw [hsz]; omega
        have he := bs_from l 1
        go_wp2_with fail
        go_meet
        exact ⟨by rw [HT.out, List.drop_one], rfl⟩
    case rest =>
      clear hsT hp1
      obtain ⟨rfl, rfl⟩ := hcut
      have htl : (sT l).length ≤ l.length := by unfold sT; split <;> simp
      generalize hT : sT l = t at *
      have HT := Lib.hid hT
      clear hT
      have htz : (bs t).size = t.length := bs_size t
      have hso : sOk l = (decide (1 ≤ t.length ∧ t.length ≤ 6) && digs t && decide (num (sN l) = l)) := by unfold sOk; rw [HT.out]
      have HSO := Lib.hid hso
      clear hso
      cases h16 : inB (t.length : Int) 1 6
      · have hno : sOk l = false := by
          rw [HSO.out]
          have : ¬ (1 ≤ t.length ∧ t.length ≤ 6) := fun h => by rw [inB_iff.2 (by omega)] at h16; cases h16
          simp [this]
        have HR := Lib.hid (sRead_no hno)
        clear hno
        go_wp2_with (go_at_call 37; refine (l1In_any _ _ _ _).mono ?_; rintro e w' ⟨rfl, rfl⟩)
        go_ret2
        rw [HR.out]
        exact ⟨rfl, 0, rfl⟩
      have ⟨t1, t2⟩ := inB_iff.1 h16
      go_wp2_with (go_at_call 37; refine (l1In_any _ _ _ _).mono ?_; rintro e w' ⟨rfl, rfl⟩)
      go_loopw [5, 6] (fun vn vi wr => ∃ i m : Nat, i ≤ t.length ∧ vi = .int .i64 (i : Nat) ∧ vn = .int .i64 (m : Nat) ∧ Hid (digs (t.take i) = true) ∧ Hid (dval (t.take i) = (m : Nat)) ∧ Hid (m < 10 ^ i) ∧ wr = wc) (fun _ vi _ => t.length - (intOf vi).toNat)
      case atStart => exact ⟨0, 0, by omega, rfl, rfl, Lib.hid rfl, Lib.hid rfl, Lib.hid (by decide), rfl⟩
      case round =>
        obtain ⟨i, m, hi, rfl, rfl, HD, HV, HM, rfl⟩ := hrel
        by_cases hlt : i < t.length
        · have hx := bs_get hlt
          have hd1 := digs_take hlt
          have hv1 := dval_take hlt
          have hno := digs_no hlt
          generalize t[i] = c at *
          have HD1 := Lib.hid hd1
          have HV1 := Lib.hid hv1
          have HNO := Lib.hid hno
          clear hd1 hv1 hno
          have hp : (i : Nat) < (bs t).size := by rw [htz]; exact hlt
          have hp2 : (i : Int) < (bs t).size := by rw [htz]; omega
          have hcn := c.toNat_lt
          have fail_ : ¬ (48 ≤ c.toNat ∧ c.toNat ≤ 57) → sRead l = (0, false) := fun h => sRead_no (by rw [HSO.out, HNO.out h]; simp)
          have HFA := Lib.hid fail_
          clear fail_
          have hmb : m < 1000000 := by
            have h1 := HM.out
            have h2 := pow_bd (i := i) (by omega)
            omega
          by_cases c1 : c.toNat < 48
          · have HR := Lib.hid (HFA.out (by omega))
            have c1' : (c.toNat : Int) < 48 := by omega
            go_wp2_with fail
            go_ret2
            rw [HR.out]
            exact ⟨rfl, 0, rfl⟩
          · have c1' : ¬ (c.toNat : Int) < 48 := by omega
            by_cases c2 : 57 < c.toNat
            · have HR := Lib.hid (HFA.out (by omega))
              have c2' : (57 : Int) < c.toNat := by omega
              go_wp2_with fail
              go_ret2
              rw [HR.out]
              exact ⟨rfl, 0, rfl⟩
            · have c2' : ¬ (57 : Int) < c.toNat := by omega
              obtain ⟨d, hd⟩ : ∃ d : Nat, (c.toNat : Int) = d + 48 := ⟨c.toNat - 48, by omega⟩
              have hd9 : d ≤ 9 := by omega
              have e48 : (c.toNat : Int) - 48 = d := by omega
              go_wp2_with fail
              go_roundw
              case rel =>
                refine ⟨i + 1, 10 * m + d, by omega, by go_num, by go_num, Lib.hid ?_, Lib.hid ?_, Lib.hid ?_, trivial⟩
                · rw [HD1.out, HD.out]; simp; omega
                · rw [HV1.out, HV.out]; omega
                · have := HM.out; rw [Nat.pow_succ]; omega
              case measure => simp [intOf]; omega
        · obtain rfl : i = t.length := by omega
          have hdt := HD.out
          have hvt := HV.out
          rw [List.take_length] at hdt hvt
          have hmb : m < 1000000 := by
            have h1 := HM.out
            have h2 : (10 : Nat) ^ t.length ≤ 10 ^ 6 := Nat.pow_le_pow_right (by omega) (by omega)
            omega
          have hsn : sN l = if t.length < l.length then -(m : Int) else (m : Int) := by unfold sN; rw [HT.out, hvt]
          have hfin : sOk l = decide (num (sN l) = l) := by
            rw [HSO.out, hdt]
            have : 1 ≤ t.length ∧ t.length ≤ 6 := by omega
            simp [this]
          have hres : sRead l = if num (sN l) = l then (sN l, true) else (0, false) := by
            unfold sRead
            rw [hfin]
            simp only [decide_eq_true_eq]
          have HR := Lib.hid hres
          have HN := Lib.hid hsn
          have hnb : -1000000 ≤ sN l ∧ sN l ≤ 1000000 := by rw [hsn]; split <;> omega
          clear hdt hvt hfin hres hsn HD HV HM
          obtain ⟨nb1, nb2⟩ := hnb
          by_cases hneg : t.length < l.length
          · have hneg' : (t.length : Int) < (bs l).size := by rw [hsz]; omega
            have HN2 := HN.out
            rw [if_pos hneg] at HN2
            clear HN
            have HN3 := Lib.hid HN2.symm
            clear HN2
            by_cases heq : num (sN l) = l
            · have hte : ((bs (num (-(m : Int)))).toList == (bs l).toList) = true := by rw [HN3.out, heq]; simp
              have HR2 := HR.out
              rw [if_pos heq] at HR2
              have HR3 := Lib.hid HR2
              clear HR2 heq
              go_wp2_with (go_at_call 38; refine (l1Num_any _ (by omega) (by omega) _).mono ?_; rintro e w9 ⟨rfl, n9, rfl⟩)
              go_ret2
              rw [HR3.out]
              exact ⟨by rw [← HN3.out]; rfl, _, rfl⟩
            · have hte : ((bs (num (-(m : Int)))).toList == (bs l).toList) = false := by rw [HN3.out, bs_toList, bs_toList]; simpa using heq
              have HR2 := HR.out
              rw [if_neg heq] at HR2
              have HR3 := Lib.hid HR2
              clear HR2 heq
              go_wp2_with (go_at_call 38; refine (l1Num_any _ (by omega) (by omega) _).mono ?_; rintro e w9 ⟨rfl, n9, rfl⟩)
              go_ret2
              rw [HR3.out]
              exact ⟨rfl, _, rfl⟩
          · have hneg' : ¬ (t.length : Int) < (bs l).size := by rw [hsz]; omega
            have HN2 := HN.out
            rw [if_neg hneg] at HN2
            clear HN
            have HN3 := Lib.hid HN2.symm
            clear HN2
            by_cases heq : num (sN l) = l
            · have hte : ((bs (num (m : Int))).toList == (bs l).toList) = true := by rw [HN3.out, heq]; simp
              have HR2 := HR.out
              rw [if_pos heq] at HR2
              have HR3 := Lib.hid HR2
              clear HR2 heq
              go_wp2_with (go_at_call 38; refine (l1Num_any _ (by omega) (by omega) _).mono ?_; rintro e w9 ⟨rfl, n9, rfl⟩)
              go_ret2
              rw [HR3.out]
              exact ⟨by rw [← HN3.out]; rfl, _, rfl⟩
            · have hte : ((bs (num (m : Int))).toList == (bs l).toList) = false := by rw [HN3.out, bs_toList, bs_toList]; simpa using heq
              have HR2 := HR.out
              rw [if_neg heq] at HR2
              have HR3 := Lib.hid HR2
              clear HR2 heq
              go_wp2_with (go_at_call 38; refine (l1Num_any _ (by omega) (by omega) _).mono ?_; rintro e w9 ⟨rfl, n9, rfl⟩)
              go_ret2
              rw [HR3.out]
              exact ⟨rfl, _, rfl⟩
end Go.Proofs.YtfpojoabfdiadaaDoor
