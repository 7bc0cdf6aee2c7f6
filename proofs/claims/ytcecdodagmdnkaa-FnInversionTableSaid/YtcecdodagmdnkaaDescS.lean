/- Descents, the major index and inversions: the program's functions. -/
import Derived.Test.YtcecdodagmdnkaaInvM
import Derived.Test.YtcecdodagmdnkaaSum
import Derived.Test.YtcecdodagmdnkaaPush
import Derived.Deep.DeepCutAuto
namespace Go.Proofs.Ytcecdodagmdnkaa
open Go.RowKit
set_option linter.unusedVariables false
theorem descN_succ (zs : List Int) (k : Nat) : (List.range (k + 1)).filter (descB zs) = (List.range k).filter (descB zs) ++ (if descB zs k then [k] else []) := by
  rw [List.range_succ, List.filter_append]
  cases h : descB zs k <;> simp [h]
def natI (l : List Nat) : List Int := l.map fun i : Nat => (i : Int)
theorem natI_snoc (l : List Nat) (k : Nat) : natI (l ++ [k]) = natI l ++ [(k : Int)] := by simp [natI]
theorem ints_snocD (zs : List Int) (z : Int) : ints zs ++ (#[Value.int .i64 z] : Array Value).toList = ints (zs ++ [z]) := by simp [ints]
theorem add_succD (a : Addr) (j : Nat) : a.add (j + 1) = ⟨a.block, a.off + (j + 1), none⟩ := by simp [Addr.add]
set_option maxRecDepth 100000 in
set_option maxHeartbeats 1600000 in
theorem descents_any (A : Option Addr) (zs : List Int) (c : Nat) (w : World) (hx : Reads w w.heap.size 1 A zs.length (ints zs)) (hl : zs.length ≤ 1048576) :
    Calls Try.prog 31 #[.slice A zs.length c] w fun e w' => ∃ v, e = .returned v ∧ w'.ownsRow w.heap.size 3 1 v (descL zs).length (ints (descL zs)) ∧ Below w.heap.size w w' := by
  obtain ⟨i0, hi, hz0, hz1, hz2⟩ := info_parts (show (Try.prog.info? 3).map (fun i => (i.zero, i.size, i.bytes)) = some (some (.int .i64 0), 1, 8) by kernel_rfl)
  have ho := made_at (w := w) (base := w.heap.size) (g := w.heap.size) (size := 1) (e := 3) (Nat.le_refl _) rfl
  have hb0 := alloc_ (Below.refl w.heap.size w) (.cells #[] 3)
  go_enter Try.func31, Try.ntmps31
  go_wp2_with fail
  go_loopw [3, 4] (fun o i wr => ∃ (k : Nat) (ys : List Int), (k + 1 ≤ zs.length ∨ k = 0) ∧ i = .int .i64 ((k : Int) + 1) ∧ Hid (ys = natI ((List.range k).filter (descB zs))) ∧ ys.length ≤ k ∧ Below w.heap.size w wr ∧ wr.ownsRow w.heap.size 3 1 o ys.length (ints ys)) (fun _ i _ => zs.length - (intOf i).toNat)
  case atStart => exact ⟨0, [], by omega, rfl, Lib.hid rfl, by simp, hb0, ho⟩
  case round =>
    clear ho hb0
    obtain ⟨k, ys, hk, rfl, HY, hyl, hb, hown⟩ := hrel
    by_cases hlt : k + 1 < zs.length
    · obtain ⟨ad, rfl, -, hc0⟩ := (hx.below hb).int (k := k) (by omega)
      obtain ⟨ad', e', -, hc1⟩ := (hx.below hb).int (k := k + 1) hlt
      cases e'
      have hs := descN_succ zs k
      have hbv : descB zs k = decide (zs[k + 1] < zs[k]) := by
        unfold descB
        rw [List.getElem?_eq_getElem hlt, List.getElem?_eq_getElem (show k < zs.length by omega)]; rfl
      have hlI : (k : Int) + 1 < zs.length := by omega
      have hkI : (k : Int) < zs.length := by omega
      have hwk : IntKind.i64.wrap (k : Int) = k := IntWalk.i64_in _ ⟨by omega, by omega⟩
      rw [add_succD] at hc1
      have e0 : (0 : Int) ≤ (k : Int) + 1 := by omega
      have e1 : ((k : Int) + 1).toNat = k + 1 := by omega
      generalize zs[k + 1] = y at *
      generalize zs[k] = x at *
      by_cases hgt : x > y
      · have hd : descB zs k = true := by rw [hbv]; simpa using hgt
        rw [hd, if_pos rfl] at hs
        have HS : Hid (ys ++ [(k : Int)] = natI ((List.range (k + 1)).filter (descB zs))) := Lib.hid (by rw [hs, natI_snoc, HY.out])
        clear hs hbv hd
        go_wp2_with fail
        go_quiet (fail)
        have hbq := below_drewN hb nq
        have hoq : (wr.drewN nq).ownsRow w.heap.size 3 1 u3 ys.length (ints ys) := hown
        generalize wr.drewN nq = wq at *
        clear hc0 hc1 hown hb
        go_wp2_with (at_builtin; refine wpList_push _ rfl _ _ 24 rfl w.heap.size 3 i0 _ 1 8 Try.underlying24 hi hz0 hz1 hz2 rfl (by decide) u3 _ _ rfl hoq #[.int .i64 (k : Int)] rfl rfl (by simp [Value.oneCell']) (by omega) (by unfold maxLen; omega) hbq.size ?_; intro g1 k1 w2 hown1 hg1 hb3 hat3)
        rw [ints_snocD] at hown1
        go_roundw
        case rel => exact ⟨k + 1, ys ++ [(k : Int)], by omega, by go_num, HS, by simp; omega, hbq.trans hb3, by simpa using hown1⟩
        case measure => simp [intOf]; omega
      · have hd : descB zs k = false := by rw [hbv]; simpa using hgt
        rw [hd] at hs
        simp only [Bool.false_eq_true, if_false, List.append_nil] at hs
        have HS : Hid (ys = natI ((List.range (k + 1)).filter (descB zs))) := Lib.hid (by rw [hs, HY.out])
        clear hs hbv hd
        go_wp2_with fail
        go_quiet (fail)
        go_wp2_with fail
        go_roundw
        case rel => exact ⟨k + 1, ys, by omega, by go_num, HS, by omega, below_drewN hb nq, hown⟩
        case measure => simp [intOf]; omega
    · have hlI : ¬ (k : Int) + 1 < zs.length := by omega
      have hys : ys = descL zs := by
        rw [HY.out]
        rcases hk with h | h
        · rw [show k = zs.length - 1 by omega]; rfl
        · subst h; unfold descL descN; rw [show zs.length - 1 = 0 by omega]; rfl
      subst hys
      go_wp2_with fail
      go_ret
      exact ⟨_, rfl, hown, hb⟩
set_option maxRecDepth 100000 in
set_option maxHeartbeats 1600000 in
theorem inversionTable_any (A : Option Addr) (zs : List Int) (c : Nat) (w : World) (hx : Reads w w.heap.size 1 A zs.length (ints zs)) (hl : zs.length ≤ 1048576) (hc : zs.length ≤ c) (hcm : c ≤ maxLen) :
    Calls Try.prog 33 #[.slice A zs.length c] w fun e w' => ∃ v, e = .returned v ∧ w'.ownsRow w.heap.size 3 1 v (invTab zs).length (ints (invTab zs)) ∧ Below w.heap.size w w' := by
  obtain ⟨i0, hi, hz0, hz1, hz2⟩ := info_parts (show (Try.prog.info? 3).map (fun i => (i.zero, i.size, i.bytes)) = some (some (.int .i64 0), 1, 8) by kernel_rfl)
  have ho := made_at (w := w) (base := w.heap.size) (g := w.heap.size) (size := 1) (e := 3) (Nat.le_refl _) rfl
  have hb0 := alloc_ (Below.refl w.heap.size w) (.cells #[] 3)
  go_enter Try.func33, Try.ntmps33
  go_wp2_with fail
  go_loopw [3, 12] (fun o i wr => ∃ (k : Nat) (ys : List Int), k ≤ zs.length ∧ i = .int .i64 (k : Nat) ∧ Hid (ys = (List.range k).map fun i : Nat => (lessAt zs i : Int)) ∧ ys.length = k ∧ Below w.heap.size w wr ∧ wr.ownsRow w.heap.size 3 1 o k (ints ys)) (fun _ i _ => zs.length - (intOf i).toNat)
  case atStart => exact ⟨0, [], by omega, rfl, Lib.hid rfl, rfl, hb0, ho⟩
  case round =>
    clear ho hb0
    obtain ⟨k, ys, hk, rfl, HY, hyl, hb, hown⟩ := hrel
    have HYL := Lib.hid hyl; clear hyl
    by_cases hlt : k < zs.length
    · have hr1 := (hx.below hb).cut (k := k + 1) (cap := c) (by omega) hc
      rw [show ints zs = ints zs from rfl, Nat.mul_one, show (ints zs).drop (k + 1) = ints (zs.drop (k + 1)) by simp [ints, List.map_drop]] at hr1
      obtain ⟨ad, rfl, -, hc0⟩ := (hx.below hb).int hlt
      have hkI : (k : Int) < zs.length := by omega
      have hk1 : (k : Int) + 1 ≤ zs.length := by omega
      have hk2 : (k : Int) + 1 ≤ c := by omega
      have HLA : Hid (lessAt zs k = (zs.drop (k + 1)).countP fun y => decide (y < zs[k])) := Lib.hid (by unfold lessAt; rw [List.getElem?_eq_getElem hlt]; rfl)
      have HRS := Lib.hid (range_snoc (fun i : Nat => (lessAt zs i : Int)) k)
      have hdl : (zs.drop (k + 1)).length = zs.length - (k + 1) := by simp
      have hla := lessAt_le zs k
      generalize zs[k] = x at *
      generalize zs.drop (k + 1) = ds at *
      generalize lessAt zs k = m at *
      have hr2 : ¬ c = k + 1 → ∀ j (hj : j < ds.length), wr.cell? ((⟨ad.block, ad.off + (k + 1), none⟩ : Addr).add j) = some (.int .i64 ds[j]) := by
        intro hck j hj
        rw [if_neg hck] at hr1
        have h3 := hr1.2 (by omega)
        obtain ⟨ad2, h4, -, h5⟩ := h3
        simp only [Option.map_some, Option.some.injEq] at h4
        rw [add_succD] at h4
        subst h4
        exact h5 j _ (ints_get hj)
      have hcI : (zs.length : Int) ≤ c := by omega
      have HDL := Lib.hid hdl
      have HCC := Lib.hid hc
      clear hr1 hdl hc
      go_wp2_with fail
      case inl =>
        have hd0 : zs.length - (k + 1) = 0 := by have := HCC.out; omega
        have hdn : ds = [] := List.eq_nil_of_length_eq_zero (by rw [HDL.out]; exact hd0)
        subst hdn
        obtain rfl : m = 0 := by rw [HLA.out]; rfl
        rw [hd0]
        go_loopw [6, 22] (fun v i wv => i = .int .i64 0 ∧ v = .int .i64 0 ∧ wr = wv) (fun _ i _ => 0)
        case atStart => exact ⟨rfl, rfl, rfl⟩
        case round =>
          obtain ⟨rfl, rfl, rfl⟩ := hrel
          go_wp2_with (at_builtin; refine wpList_push _ rfl _ _ 24 rfl w.heap.size 3 i0 _ 1 8 Try.underlying24 hi hz0 hz1 hz2 rfl (by decide) u3 _ _ rfl hown #[.int .i64 0] rfl rfl (by simp [Value.oneCell']) (by omega) (by unfold maxLen; omega) hb.size ?_; intro g1 k1 w2 hown1 hg1 hb3 hat3)
          rw [ints_snocD] at hown1
          go_roundw
          case rel =>
            have F1 : Hid (ys ++ [(0 : Int)] = (List.range (k + 1)).map fun i : Nat => (lessAt zs i : Int)) := Lib.hid (by rw [HRS.out, HY.out]; rfl)
            have F2 : (ys ++ [(0 : Int)]).length = k + 1 := by rw [List.length_append, HYL.out]; rfl
            first
              | exact ⟨k + 1, ys ++ [(0 : Int)], by omega, by go_num, F1, F2, hb.trans hb3, hown1⟩
              | exact ⟨_, _, _, _, _, _, ⟨k + 1, by omega, by go_num, ys ++ [(0 : Int)], F1, F2, hb.trans hb3, hown1⟩, rfl, rfl, rfl, rfl, rfl, rfl⟩
          case measure => simp [intOf]; omega
      case inr =>
        rw [← HDL.out]
        go_loopw [6, 22] (fun v i wv => ∃ (j n : Nat), wr = wv ∧ j ≤ ds.length ∧ i = .int .i64 (j : Nat) ∧ v = .int .i64 (n : Nat) ∧ n ≤ j ∧ Hid (n = (ds.take j).countP fun y => decide (y < x))) (fun _ i _ => ds.length - (intOf i).toNat)
        case atStart => exact ⟨0, 0, rfl, by omega, rfl, rfl, by omega, Lib.hid rfl⟩
        case round =>
          obtain ⟨j, n, rfl, hj, rfl, rfl, hnj, HN⟩ := hrel
          have hdl2 : ds.length ≤ 1048576 := by rw [HDL.out]; omega
          by_cases hjl : j < ds.length
          · have hcj := hr2 (by assumption) j hjl
            rw [Addr.add_lit] at hcj
            have HS : Hid ((ds.take (j + 1)).countP (fun y => decide (y < x)) = n + (if ds[j] < x then 1 else 0)) := Lib.hid (by
              rw [List.take_succ_eq_append_getElem hjl, List.countP_append, ← HN.out, List.countP_singleton]
              simp)
            have hjI : (j : Int) < ds.length := by omega
            generalize ds[j] = y at *
            by_cases hyx : y < x
            · have HS2 := Lib.hid (HS.out.trans (by rw [if_pos hyx]))
              go_wp2_with fail
              go_roundw
              case rel => exact ⟨j + 1, n + 1, trivial, by omega, by go_num, by go_num, by omega, Lib.hid HS2.out.symm⟩
              case measure => simp [intOf]; omega
            · have HS2 := Lib.hid (HS.out.trans (by rw [if_neg hyx]))
              go_wp2_with fail
              go_roundw
              case rel => exact ⟨j + 1, n, trivial, by omega, by go_num, rfl, by omega, Lib.hid HS2.out.symm⟩
              case measure => simp [intOf]; omega
          · have hjI : ¬ (j : Int) < ds.length := by omega
            obtain rfl : n = m := by rw [HN.out, HLA.out, List.take_of_length_le (by omega)]
            go_wp2_with (at_builtin; refine wpList_push _ rfl _ _ 24 rfl w.heap.size 3 i0 _ 1 8 Try.underlying24 hi hz0 hz1 hz2 rfl (by decide) u3 _ _ rfl hown #[.int .i64 (n : Nat)] rfl rfl (by simp [Value.oneCell']) (by omega) (by unfold maxLen; omega) hb.size ?_; intro g1 k1 w2 hown1 hg1 hb3 hat3)
            rw [ints_snocD] at hown1
            go_roundw
            case rel =>
              have F1 : Hid (ys ++ [(n : Int)] = (List.range (k + 1)).map fun i : Nat => (lessAt zs i : Int)) := Lib.hid (by rw [HRS.out, HY.out])
              have F2 : (ys ++ [(n : Int)]).length = k + 1 := by rw [List.length_append, HYL.out]; rfl
              first
                | exact ⟨k + 1, ys ++ [(n : Int)], by omega, by go_num, F1, F2, hb.trans hb3, hown1⟩
                | exact ⟨_, _, _, _, _, _, ⟨k + 1, by omega, by go_num, ys ++ [(n : Int)], F1, F2, hb.trans hb3, hown1⟩, rfl, rfl, rfl, rfl, rfl, rfl⟩
            case measure => simp [intOf]; omega
    · obtain rfl : k = zs.length := by omega
      have hys : ys = invTab zs := HY.out
      rw [← invTab_len zs, ← hys] at hown
      go_wp2_with fail
      go_ret
      exact ⟨_, rfl, by rw [← hys]; rw [hys] at hown; rw [hys]; exact hown, hb⟩
def descOut (zs : List Int) : List Int := if vList zs then descL zs else []
set_option maxRecDepth 100000 in
theorem Descents_any (A : Option Addr) (zs : List Int) (c : Nat) (w : World) (hx : Reads w w.heap.size 1 A zs.length (ints zs)) (hv : vList zs = true) :
    Calls Try.prog 9 #[.slice A zs.length c] w fun e w' => ∃ D d, e = .returned (.tuple #[.slice D (descL zs).length d, .bool true]) ∧ w'.ownsRow w.heap.size 3 1 (.slice D (descL zs).length d) (descL zs).length (ints (descL zs)) ∧ Below w.heap.size w w' := by
  have h64 : zs.length ≤ 64 := by simp [vList] at hv; exact hv.1
  have HV := Lib.hid hv; clear hv
  go_enter Try.func9, Try.ntmps9
  go_wp2_with (go_at_call 30; refine (IsValidList_any A zs c _ hx (by omega)).mono ?_; rintro e w1 ⟨rfl, hb1⟩; rw [HV.out])
  refine (descents_any A zs c _ ((hx.below hb1).more hb1.size) (by omega)).mono ?_
  rintro e w2 ⟨v, rfl, own2, hb2⟩
  obtain ⟨D, d, rfl⟩ := own_slice own2
  go_wp2_with fail
  exact bodyPost_ret (v := .tuple #[.slice D (descL zs).length d, .bool true]) (by simp [results, Try.results9, go_sem]) rfl ⟨D, d, rfl, own_base own2 hb1.size, bthen hb1 hb2⟩
set_option maxRecDepth 100000 in
theorem MajorIndex_any (A : Option Addr) (zs : List Int) (c : Nat) (w : World) (hx : Reads w w.heap.size 1 A zs.length (ints zs)) (hv : vList zs = true) :
    Calls Try.prog 10 #[.slice A zs.length c] w fun e w' => e = .returned (.tuple #[.int .i64 (wrap64 (sumW (descL zs) + (descL zs).length)), .bool true]) ∧ Below w.heap.size w w' := by
  have h64 : zs.length ≤ 64 := by simp [vList] at hv; exact hv.1
  have HV := Lib.hid hv; clear hv
  have hdl := descN_len zs
  rw [← descL_len] at hdl
  go_enter Try.func10, Try.ntmps10
  go_wp2_with (go_at_call 30; refine (IsValidList_any A zs c _ hx (by omega)).mono ?_; rintro e w1 ⟨rfl, hb1⟩; rw [HV.out])
  refine (descents_any A zs c _ ((hx.below hb1).more hb1.size) (by omega)).mono ?_
  rintro e w2 ⟨v, rfl, own2, hb2⟩
  obtain ⟨D, d, rfl⟩ := own_slice own2
  have hB := bthen hb1 hb2
  go_wp2_with (go_at_call 32; refine (sum_any D (descL zs) d _ (Reads.of_own own2) (by omega)).mono ?_; rintro e w' ⟨rfl, rfl⟩)
  exact bodyPost_ret (v := .tuple #[.int .i64 (wrap64 (sumW (descL zs) + (descL zs).length)), .bool true]) (by simp [results, Try.results10, go_sem]) rfl ⟨rfl, hB⟩
set_option maxRecDepth 100000 in
theorem CountInversions_any (A : Option Addr) (zs : List Int) (c : Nat) (w : World) (hx : Reads w w.heap.size 1 A zs.length (ints zs)) (hv : vList zs = true) (hc : zs.length ≤ c) (hcm : c ≤ maxLen) :
    Calls Try.prog 11 #[.slice A zs.length c] w fun e w' => e = .returned (.tuple #[.int .i64 (sumW (invTab zs)), .bool true]) ∧ Below w.heap.size w w' := by
  have h64 : zs.length ≤ 64 := by simp [vList] at hv; exact hv.1
  have HV := Lib.hid hv; clear hv
  have hil := invTab_len zs
  have HIL := Lib.hid hil; clear hil
  go_enter Try.func11, Try.ntmps11
  go_wp2_with (go_at_call 30; refine (IsValidList_any A zs c _ hx (by omega)).mono ?_; rintro e w1 ⟨rfl, hb1⟩; rw [HV.out])
  refine (inversionTable_any A zs c _ ((hx.below hb1).more hb1.size) (by omega) hc hcm).mono ?_
  rintro e w2 ⟨v, rfl, own2, hb2⟩
  obtain ⟨D, d, rfl⟩ := own_slice own2
  have hB := bthen hb1 hb2
  go_wp2_with (go_at_call 32; refine (sum_any D (invTab zs) d _ (Reads.of_own own2) (by rw [HIL.out]; omega)).mono ?_; rintro e w' ⟨rfl, rfl⟩)
  exact bodyPost_ret (v := .tuple #[.int .i64 (sumW (invTab zs)), .bool true]) (by simp [results, Try.results11, go_sem]) rfl ⟨rfl, hB⟩
theorem rSum_any (A : Option Addr) (zs : List Int) (c : Nat) (w : World) (hx : Reads w w.heap.size 1 A zs.length (ints zs)) (hl : zs.length ≤ 1048576) :
    Calls Try.prog 12 #[.slice A zs.length c] w fun e w' => e = .returned (.int .i64 (sumW zs)) ∧ w = w' := by
  go_enter Try.func12, Try.ntmps12
  go_wp2_with fail
  go_loop [3, 4] (fun t i => ∃ k : Nat, k ≤ zs.length ∧ i = .int .i64 k ∧ t = .int .i64 (sumW (zs.take k))) (fun _ i => zs.length - (intOf i).toNat)
  case atStart => exact ⟨0, by omega, rfl, rfl⟩
  case round =>
    obtain ⟨k, hk, rfl, rfl⟩ := hrel
    by_cases hlt : k < zs.length
    · obtain ⟨ad, rfl, -, hc⟩ := hx.int hlt
      go_wp2_with fail
      go_round
      case rel => exact ⟨k + 1, by omega, by go_num, by rw [sumW_succ hlt]⟩
      case measure => simp [intOf]; omega
    · go_wp2_with fail
      go_ret
      exact ⟨reti (by rw [List.take_of_length_le (by omega)]), rfl⟩
end Go.Proofs.Ytcecdodagmdnkaa
