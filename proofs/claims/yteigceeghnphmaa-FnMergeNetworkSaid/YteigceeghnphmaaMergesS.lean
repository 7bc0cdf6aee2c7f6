/- MergesSorted: the reference's function. -/
import Derived.Test.YteigceeghnphmaaMergesW
namespace Go.Proofs.Yteigceeghnphmaa
open Go.RowKit
set_option linter.unusedVariables false
theorem part_eq (x s : Nat) (h : x + s ≤ 12) : wrap64 (wrap64 (wrap64 (2 ^ x) - 1) * 2 ^ s) = (((2 ^ x - 1) <<< s : Nat) : Int) ∧ (2 ^ x - 1) <<< s < 4096 := by
  rw [wrap_pow x (by omega), Nat.shiftLeft_eq]
  have h1 : 1 ≤ 2 ^ x := Nat.one_le_two_pow
  have h2 : 1 ≤ 2 ^ s := Nat.one_le_two_pow
  have h3 : 2 ^ x * 2 ^ s ≤ 4096 := by rw [← Nat.pow_add]; exact Nat.pow_le_pow_right (n := 2) (by omega) h
  have h4 : ((2 : Int) ^ s) = ((2 ^ s : Nat) : Int) := by simp
  rw [h4]
  clear h4
  generalize 2 ^ x = P at *
  generalize 2 ^ s = Q at *
  have h5 : P ≤ P * Q := Nat.le_mul_of_pos_right _ h2
  have e1 : wrap64 ((P : Int) - 1) = ((P - 1 : Nat) : Int) := by unfold wrap64; omega
  have h6 : (P - 1) * Q < 4096 := by
    have : (P - 1) * Q + Q = P * Q := by rw [← Nat.succ_mul]; congr 1; omega
    omega
  rw [e1]
  refine ⟨?_, h6⟩
  have e2 : (((P - 1 : Nat) : Int) * (Q : Int)) = (((P - 1) * Q : Nat) : Int) := by simp
  rw [e2]
  generalize (P - 1) * Q = R at *
  unfold wrap64
  omega
theorem maskI_eq (q n x y : Nat) (hx : x ≤ q) (hq : q ≤ n) (hy : y ≤ n) (hn : n ≤ 12) :
    bits .or .i64 (wrap64 (wrap64 (wrap64 (2 ^ x) - 1) * 2 ^ (q - x))) (wrap64 (wrap64 (wrap64 (2 ^ y) - 1) * 2 ^ (n - y))) = ((maskN q n (q - x) (n - y) : Nat) : Int) ∧ maskN q n (q - x) (n - y) < 4096 := by
  obtain ⟨a1, a2⟩ := part_eq x (q - x) (by omega)
  obtain ⟨b1, b2⟩ := part_eq y (n - y) (by omega)
  unfold maskN
  rw [a1, b1, show q - (q - x) = x from by omega, show n - (n - y) = y from by omega]
  exact ⟨(i64_nat _ _ (by omega) (by omega)).2, Nat.or_lt_two_pow (n := 12) a2 b2⟩
theorem maskN_lt (a W i k : Nat) (hi : i ≤ a) (ha : a ≤ W) (hk : k ≤ W) : maskN a W i k < 2 ^ W := by
  unfold maskN
  rw [Nat.shiftLeft_eq, Nat.shiftLeft_eq]
  have h1 : ∀ s t : Nat, s + t ≤ W → (2 ^ s - 1) * 2 ^ t < 2 ^ W := fun s t h => by
    have h2 : 2 ^ s * 2 ^ t ≤ 2 ^ W := by rw [← Nat.pow_add]; exact Nat.pow_le_pow_right (n := 2) (by omega) h
    have h3 : 1 ≤ 2 ^ s := Nat.one_le_two_pow
    have h4 : 1 ≤ 2 ^ t := Nat.one_le_two_pow
    have : (2 ^ s - 1) * 2 ^ t + 2 ^ t = 2 ^ s * 2 ^ t := by rw [← Nat.succ_mul]; congr 1; omega
    omega
  exact Nat.or_lt_two_pow (h1 _ _ (by omega)) (h1 _ _ (by omega))
theorem ms_of (W : Nat) (cs : List (Int × Int)) (a : Nat) (h : ∀ y, y < a + 1 → rowOk W cs a (a - y) (W - a + 1) = true) : msAll W cs a (a + 1) = true := by
  unfold msAll
  rw [List.all_eq_true]
  intro i hi
  have hi' := List.mem_range.1 hi
  have := h (a - i) (by omega)
  rwa [show a - (a - i) = i from by omega] at this
theorem row_of (W : Nat) (cs : List (Int × Int)) (a i : Nat) (ha : a ≤ W) (h : ∀ z, z < W - a + 1 → okP W cs a i (W - z) = true) : rowOk W cs a i (W - a + 1) = true := by
  unfold rowOk
  rw [List.all_eq_true]
  intro d hd
  have hd' := List.mem_range.1 hd
  have := h (W - a - d) (by omega)
  rwa [show W - (W - a - d) = a + d from by omega] at this
set_option maxRecDepth 100000 in
set_option maxHeartbeats 3200000 in
theorem sMergesSorted_any (W : Int) (A : Option Addr) (cs : List (Int × Int)) (c : Nat) (a : Int) (w : World) (hx : Reads w w.heap.size 2 A cs.length (cmps cs)) (hl : cs.length ≤ 1099511627776) :
    Calls Try.prog 22 #[.agg #[.int .i64 W, .slice A cs.length c], .int .i64 a] w fun e w' => e = .returned (.tuple #[.bool (msV W cs a), .bool (msOk W cs a)]) ∧ Below w.heap.size w w' := by
  have hb0 : Below w.heap.size w (w.alloc (.cells #[.int .i64 W, .slice A cs.length c] 26)) := by go_grown
  cases hck : chkOk W cs
  · have hms : msOk W cs a = false := by simp [msOk, hck]
    rw [show msV W cs a = false from by simp [msV, hms], hms]
    clear hms
    go_enter Try.func22, Try.ntmps22
    go_wp2_with fail
    refine (l12Checked_any W A cs c _ ((hx.below hb0).more hb0.size) hl).mono ?_
    rintro e w1 ⟨rfl, hb1⟩
    obtain ⟨B1, k1⟩ := step_box hb1
    rw [hck]
    go_wp2_with fail
    go_ret2
    exact ⟨rfl, B1⟩
  cases hin : inB a 0 W
  · have hms : msOk W cs a = false := by simp [msOk, hin]
    rw [show msV W cs a = false from by simp [msV, hms], hms]
    clear hms
    go_enter Try.func22, Try.ntmps22
    go_wp2_with fail
    refine (l12Checked_any W A cs c _ ((hx.below hb0).more hb0.size) hl).mono ?_
    rintro e w1 ⟨rfl, hb1⟩
    obtain ⟨B1, k1⟩ := step_box hb1
    obtain ⟨x0, x1⟩ := k1.two
    have xl := k1.lt
    rw [hck]
    go_wp2_with (go_at_call 62; refine (l1In_any _ _ _ _).mono ?_; rintro e w' ⟨rfl, rfl⟩; rw [hin])
    go_ret2
    exact ⟨rfl, B1⟩
  have hms : msOk W cs a = true := by simp [msOk, hck, hin]
  rw [show msV W cs a = msAll W.toNat cs a.toNat (a.toNat + 1) from by simp [msV, hms], hms]
  clear hms
  obtain ⟨n, rfl, hnet, hn12, hcl⟩ := chk_parts hck
  have hcs : ∀ c ∈ cs, cmpOk n c = true := by
    simp only [netOk, Bool.and_eq_true, List.all_eq_true] at hnet; exact hnet.2.2
  have HC := Lib.hid hcs; clear hcs
  have ⟨ha0, ha1⟩ := inB_iff.1 hin
  obtain ⟨q, rfl⟩ := Int.eq_ofNat_of_zero_le ha0
  rw [Int.toNat_natCast, Int.toNat_natCast]
  have hqn : q ≤ n := by omega
  have HN := Lib.hid hnet; clear hnet
  have HK := Lib.hid hck; clear hck
  have HI := Lib.hid hin; clear hin
  go_enter Try.func22, Try.ntmps22
  go_wp2_with fail
  refine (l12Checked_any n A cs c _ ((hx.below hb0).more hb0.size) hl).mono ?_
  rintro e w1 ⟨rfl, hb1⟩
  obtain ⟨B1, k1⟩ := step_box hb1
  obtain ⟨x0, x1⟩ := k1.two
  have xl := k1.lt
  rw [HK.out]
  go_wp2_with (go_at_call 62; refine (l1In_any _ _ _ _).mono ?_; rintro e w' ⟨rfl, rfl⟩; rw [HI.out])
  clear x0 x1 xl
  go_loopw [7] (fun i wr => ∃ x : Nat, x ≤ q + 1 ∧ i = .int .i64 x ∧ (∀ y, y < x → rowOk n cs q (q - y) (n - q + 1) = true) ∧ Below w.heap.size w wr ∧ Blk wr w.heap.size 26 #[.int .i64 n, .slice A cs.length c]) (fun i _ => q + 1 - (intOf i).toNat)
  case atStart => exact ⟨0, by omega, rfl, by intro y hy; omega, B1, k1⟩
  case round =>
    clear B1 k1 hb1 hb0
    obtain ⟨x, hxq, rfl, hall, hb, hbx⟩ := hrel
    have HALL := Lib.hid hall; clear hall
    by_cases hlt : x ≤ q
    · obtain ⟨wo, rfl⟩ : ∃ wo : World, wo = wr := ⟨_, rfl⟩
      go_wp2_with fail
      go_loopw [8] (fun i wr => ∃ y : Nat, y ≤ n - q + 1 ∧ i = .int .i64 y ∧ (∀ z, z < y → okP n cs q (q - x) (n - z) = true) ∧ Below w.heap.size w wr ∧ Blk wr w.heap.size 26 #[.int .i64 n, .slice A cs.length c]) (fun i _ => n + 1 - (intOf i).toNat)
      case atStart => exact ⟨0, by omega, by simp, by intro z hz; omega, hb, hbx⟩
      case round =>
        clear hb hbx
        obtain ⟨y, hyn, rfl, hrow, hb, hbx⟩ := hrel
        have HROW := Lib.hid hrow; clear hrow
        obtain ⟨x0, x1⟩ := hbx.two
        have xl := hbx.lt
        by_cases hld : y ≤ n - q
        · have hdI : (y : Int) ≤ (n : Int) - q := by omega
          obtain ⟨hmI, hm4⟩ := maskI_eq q n x y hlt hqn (by omega) hn12
          have hml := maskN_lt q n (q - x) (n - y) (by omega) hqn (by omega)
          have hokN := okP_N n cs HC.out q (q - x) (n - y) (by omega) (by omega)
          have HMI := Lib.hid hmI; clear hmI
          have HOKN := Lib.hid hokN; clear hokN
          generalize hK : maskN q n (q - x) (n - y) = K at HMI hm4 hml HOKN
          clear hK
          obtain ⟨wo2, rfl⟩ : ∃ wo : World, wo = wr := ⟨_, rfl⟩
          have HML := Lib.hid hml; clear hml
          go_wp2_with fail
          clear x0 x1
          go_loopw [9, 10] (fun m j wr => ∃ (p M : Nat), p ≤ cs.length ∧ j = .int .i64 p ∧ m = .int .i64 M ∧ M = netN (cs.take p) K ∧ Below w.heap.size w wr ∧ Blk wr w.heap.size 26 #[.int .i64 n, .slice A cs.length c]) (fun _ j _ => cs.length - (intOf j).toNat)
          case atStart => exact ⟨0, K, by omega, rfl, by rw [HMI.out], by simp [netN], hb, hbx⟩
          case round =>
            clear hb hbx
            obtain ⟨p, M, hp, rfl, rfl, hM, hb, hbx⟩ := hrel
            have hMl : M < 2 ^ n := by
              rw [hM]; exact netN_lt HML.out (fun c hc => HC.out c (List.mem_of_mem_take hc))
            have hM4 : M < 4096 := Nat.lt_of_lt_of_le hMl (Nat.pow_le_pow_right (n := 2) (by omega) hn12)
            have HM := Lib.hid hM; clear hM hMl
            obtain ⟨x0, x1⟩ := hbx.two
            by_cases hlq : p < cs.length
            · obtain ⟨ad, rfl, had, hc0, hc1⟩ := (hx.below hb).cmp hlq
              obtain ⟨hcn, hlo0, hlo1, hhi0, hhi1⟩ := cmpOk_iff' (HC.out cs[p] (List.getElem_mem hlq))
              obtain ⟨a, b, hck⟩ : ∃ a b : Nat, cs[p] = ((a : Int), (b : Int)) := ⟨cs[p].1.toNat, cs[p].2.toNat, by ext <;> simp <;> omega⟩
              have hst := netN_take cs K p hlq
              rw [← HM.out, hck] at hst
              rw [hck] at hlo1 hhi1 hc0 hc1
              simp only [Int.toNat_natCast] at hlo1 hhi1 hst
              have HS := Lib.hid hst; clear hst
              clear hck hcn hlo0 hhi0
              go_wp2_with (go_at_call 66; refine (l12Step_any M a b _ hM4 (by omega) (by omega)).mono ?_; rintro e w1 ⟨rfl, hb1⟩)
              go_roundw
              case rel => exact ⟨p + 1, stepN M a b, by omega, by go_num, rfl, HS.out.symm, bthen' hb hb1, hbx.below_ hb1⟩
              case measure => simp [intOf]; omega
            · have hF := HOKN.out
              rw [show netN cs K = M from by rw [HM.out, List.take_of_length_le (by omega)]] at hF
              have HF1 := Lib.hid hF; clear hF
              cases ht : ascN M n
              all_goals
                have HT := Lib.hid ht; clear ht
                go_wp2_with (go_at_call 67; refine (l12Ascending_any M n _ hM4 hn12).mono ?_; rintro e w' ⟨rfl, rfl⟩; rw [HT.out])
              · go_ret2
                refine ⟨ret_bb (ms_hit n cs q (q - x) (n - y - q) (by omega) (by omega) ?_).symm rfl, hb⟩
                rw [show q + (n - y - q) = n - y from by omega, HF1.out, HT.out]
              · go_roundw
                case rel =>
                  refine ⟨y + 1, by omega, by go_num, fun z hz => ?_, hb, hbx⟩
                  rcases Nat.lt_or_ge z y with h | h
                  · exact HROW.out z h
                  · rw [show z = y from by omega, HF1.out, HT.out]
                case measure => simp [intOf]; omega
        · have hdI : ¬ (y : Int) ≤ (n : Int) - q := by omega
          have hye : y = n - q + 1 := by omega
          have hro := row_of n cs q (q - x) hqn (by rw [← hye]; exact HROW.out)
          have HRO := Lib.hid hro; clear hro
          clear hye
          go_wp2_with fail
          go_roundw
          case rel =>
            refine ⟨x + 1, by omega, by go_num, fun z hz => ?_, hb, hbx⟩
            rcases Nat.lt_or_ge z x with h | h
            · exact HALL.out z h
            · rw [show z = x from by omega]; exact HRO.out
          case measure => simp [intOf]; omega
    · have hxe : x = q + 1 := by omega
      have hms := ms_of n cs q (by rw [← hxe]; exact HALL.out)
      have HMS := Lib.hid hms; clear hms
      clear hxe
      go_wp2_with fail
      go_ret2
      exact ⟨ret_bb HMS.out.symm rfl, hb⟩
end Go.Proofs.Yteigceeghnphmaa
