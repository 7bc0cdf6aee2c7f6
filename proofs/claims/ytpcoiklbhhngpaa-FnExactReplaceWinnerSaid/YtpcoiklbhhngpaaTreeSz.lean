/- A tree's rows counted. -/
import Derived.Test.YtpcoiklbhhngpaaTreeEq
import Derived.Test.YtpcoiklbhhngpaaArgRR
namespace Go.Proofs.Ytpcoiklbhhngpaa
open Go.RowKit
set_option linter.unusedVariables false
theorem szBoolS_any (A : Option Addr) (n c : Nat) (left : Int) (w : World) (hm : n ≤ maxLen) (h0 : 0 ≤ left) (h1 : left ≤ 1048576) :
    Calls Try.prog 42 #[.slice A n c, .int .i64 left] w fun e w' => e = .returned (.int .i64 (szw n left)) ∧ w = w' := by
  unfold maxLen at hm
  by_cases h : 0 ≤ left - n
  · have h' : ¬ left - (n : Int) < 0 := by omega
    go_enter Try.func42, Try.ntmps42
    go_wp2_with fail
    go_ret
    exact ⟨reti (by unfold szw; rw [if_pos (by omega)]), rfl⟩
  · have h' : left - (n : Int) < 0 := by omega
    go_enter Try.func42, Try.ntmps42
    go_wp2_with fail
    go_ret
    exact ⟨reti (by unfold szw; rw [if_neg (by omega)]), rfl⟩
theorem szw_m1 {n : Nat} {left : Int} (h : szw n left < 0) : szw n left = -1 ∧ left - n < 0 := by
  unfold szw at h ⊢
  by_cases h2 : 0 ≤ left - n
  · rw [if_pos h2] at h; omega
  · rw [if_neg h2]; omega
theorem szw_lo {n : Nat} {left : Int} (h : left - n < 0) : szw n left = -1 := by unfold szw; rw [if_neg (by omega)]
set_option maxHeartbeats 800000 in
theorem szLoserTree_any (AK : Option Addr) (nK cK : Nat) (AD : Option Addr) (nD cD : Nat) (AL : Option Addr) (nL cL : Nat) (W left : Int) (w : World) (hmK : nK ≤ maxLen) (hmD : nD ≤ maxLen) (hmL : nL ≤ maxLen) (h0 : 0 ≤ left) (h1 : left ≤ 1048576) :
    Calls Try.prog 17 #[.agg #[.slice AK nK cK, .slice AD nD cD, .slice AL nL cL, .int .i64 W], .int .i64 left] w fun e w' => e = .returned (.int .i64 (szw (nK + nD + nL) left)) ∧ Below w.heap.size w w' := by
  have hb0 := alloc_ (Below.refl w.heap.size w) (.cells #[.slice AK nK cK, .slice AD nD cD, .slice AL nL cL, .int .i64 W] 34)
  rcases szw_cases nK left h0 h1 with hz | ⟨hl, hze, hzp⟩
  · obtain ⟨e1, e2⟩ := szw_m1 hz
    have HF := Lib.hid (show szw (nK + nD + nL) left = -1 from szw_lo (by omega))
    have HE := Lib.hid e1; clear e1
    go_enter Try.func17, Try.ntmps17
    go_wp2_with (go_at_call 41; refine (szIntS_any AK nK cK left _ hmK h0 h1).mono ?_; rintro e w1 ⟨rfl, rfl⟩)
    go_ret
    exact ⟨reti HF.out.symm, hb0⟩
  · have HZ := Lib.hid hze; clear hze
    have hzn : ¬ szw nK left < 0 := by omega
    have hzu : szw nK left ≤ 1048576 := by have := HZ.out; omega
    rcases szw_cases nD (szw nK left) hzp hzu with hz2 | ⟨hl2, hze2, hzp2⟩
    · obtain ⟨e1, e2⟩ := szw_m1 hz2
      have HF := Lib.hid (show szw (nK + nD + nL) left = -1 from szw_lo (by have := HZ.out; omega))
      have HE := Lib.hid e1; clear e1
      go_enter Try.func17, Try.ntmps17
      go_wp2_with (first
        | (go_at_call 41; refine (szIntS_any AK nK cK left _ hmK h0 h1).mono ?_; rintro e w1 ⟨rfl, rfl⟩)
        | (go_at_call 42; refine (szBoolS_any AD nD cD _ _ hmD hzp hzu).mono ?_; rintro e w1 ⟨rfl, rfl⟩))
      go_ret
      exact ⟨reti HF.out.symm, hb0⟩
    · have HZ2 := Lib.hid hze2; clear hze2
      have hzn2 : ¬ szw nD (szw nK left) < 0 := by omega
      have hzu2 : szw nD (szw nK left) ≤ 1048576 := by have := HZ2.out; omega
      have HF := Lib.hid (show szw (nK + nD + nL) left = szw nL (szw nD (szw nK left)) by
        have h3 := HZ.out; have h4 := HZ2.out
        rw [h4, h3]
        unfold szw
        by_cases h5 : 0 ≤ left - (nK : Int) - nD - nL
        · rw [if_pos (by omega), if_pos (by omega)]; omega
        · rw [if_neg (by omega), if_neg (by omega)])
      go_enter Try.func17, Try.ntmps17
      rcases szw_cases nL (szw nD (szw nK left)) hzp2 hzu2 with hz3 | ⟨hl3, hze3, hzp3⟩
      · have HE := Lib.hid (szw_m1 hz3).1
        go_wp2_with (first
          | (go_at_call 42; refine (szBoolS_any AD nD cD _ _ hmD hzp hzu).mono ?_; rintro e w1 ⟨rfl, rfl⟩)
          | (go_at_call_of 41 (Value.slice AL nL cL); refine (szIntS_any AL nL cL _ _ hmL hzp2 hzu2).mono ?_; rintro e w1 ⟨rfl, rfl⟩)
          | (go_at_call 41; refine (szIntS_any AK nK cK left _ hmK h0 h1).mono ?_; rintro e w1 ⟨rfl, rfl⟩))
        go_ret
        exact ⟨reti (by rw [HF.out, HE.out]), hb0⟩
      · have hzn3 : ¬ szw nL (szw nD (szw nK left)) < 0 := by omega
        go_wp2_with (first
          | (go_at_call 42; refine (szBoolS_any AD nD cD _ _ hmD hzp hzu).mono ?_; rintro e w1 ⟨rfl, rfl⟩)
          | (go_at_call_of 41 (Value.slice AL nL cL); refine (szIntS_any AL nL cL _ _ hmL hzp2 hzu2).mono ?_; rintro e w1 ⟨rfl, rfl⟩)
          | (go_at_call 41; refine (szIntS_any AK nK cK left _ hmK h0 h1).mono ?_; rintro e w1 ⟨rfl, rfl⟩))
        go_ret
        exact ⟨reti (by rw [HF.out, hze3]), hb0⟩
end Go.Proofs.Ytpcoiklbhhngpaa
