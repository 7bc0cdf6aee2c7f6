/- MergeRuns and IsRunPartition, on both sides. -/
import Derived.Test.YtecbagdljgnloaaAre
import Derived.Test.YtecbagdljgnloaaArgRR
namespace Go.Proofs.Ytecbagdljgnloaa
open Go.RowKit
set_option linter.unusedVariables false
theorem rOk_sum {zss : List (List Int)} (h : rOk zss = true) : zss.flatten.length ≤ 64 := by
  simp only [rOk, Bool.and_eq_true, decide_eq_true_eq] at h
  rw [flat_len]; exact h.2
theorem Concat_f (A : Option Addr) (zss : List (List Int)) (c : Nat) (fl : List Int) (hfl : fl = zss.flatten) (w : World) (hx : ReadsRR w w.heap.size A zss) (hl : zss.length ≤ 1048576) (hs : (zss.map List.length).sum ≤ 1048576) :
    Calls Try.prog 39 #[.slice A zss.length c] w fun e w' => ∃ v, e = .returned v ∧ w'.ownsRow w.heap.size 3 1 v fl.length (ints fl) ∧ Below w.heap.size w w' := by
  subst hfl; exact Concat_any A zss c w hx hl hs
set_option maxRecDepth 100000 in
set_option maxHeartbeats 800000 in
theorem MergeRuns_any (A0 : Option Addr) (z0 : List (List Int)) (c0 : Nat) (w : World) (hx0 : ReadsRR w w.heap.size A0 z0) (hl0 : z0.length + (z0.map List.length).sum ≤ 1048576) :
    Calls Try.prog 25 #[.slice A0 z0.length c0] w fun e w' => ∃ A c, e = .returned (.tuple #[.slice A (mrV z0).length c, .bool (rOk z0)]) ∧
      w'.ownsRow w.heap.size 3 1 (.slice A (mrV z0).length c) (mrV z0).length (ints (mrV z0)) ∧ Below w.heap.size w w' := by
  cases hv : rOk z0
  · rw [show mrV z0 = [] from by simp [mrV, hv]]
    go_enter Try.func25, Try.ntmps25
    go_wp2_with (go_at_call 37; refine (areRuns_any A0 z0 c0 _ hx0 (by omega) (by omega)).mono ?_; rintro e w1 ⟨rfl, hb1⟩; rw [hv])
    exact bodyPost_ret (v := .tuple #[.slice none 0 0, .bool false]) (by simp [results, Try.results25, go_sem]) rfl ⟨none, 0, rfl, World.ownsRow_nil _ _ _ _, hb1⟩
  · rw [show mrV z0 = srt z0.flatten from by simp [mrV, hv]]
    have HFL := Lib.hid (flat_len z0)
    have HV := Lib.hid hv; clear hv
    rw [srt_len]
    obtain ⟨fl, hfl⟩ : ∃ fl, fl = z0.flatten := ⟨_, rfl⟩
    rw [← hfl] at HFL ⊢
    have HF := Lib.hid hfl; clear hfl
    go_enter Try.func25, Try.ntmps25
    go_wp2_with (go_at_call 37; refine (areRuns_any A0 z0 c0 _ hx0 (by omega) (by omega)).mono ?_; rintro e w1 ⟨rfl, hb1⟩; rw [HV.out])
    refine (Concat_f A0 z0 c0 fl HF.out _ ((hx0.below hb1).more hb1.size) (by omega) (by omega)).mono ?_
    rintro e w2 ⟨v2, rfl, ho2, hb2⟩
    obtain ⟨A2, c2, rfl⟩ := own_slice ho2
    go_wp2_with fail
    refine (sorted_any A2 fl c2 _ (Reads.of_own ho2) (by have := HFL.out; omega)).mono ?_
    rintro e w3 ⟨v3, rfl, ho3, hb3⟩
    obtain ⟨A3, c3, rfl⟩ := own_slice ho3
    go_wp2_with fail
    exact bodyPost_ret (v := .tuple #[.slice A3 fl.length c3, .bool true]) (by simp [results, Try.results25, go_sem]) rfl ⟨A3, c3, rfl, own_base ho3 (bthen hb1 hb2).size, bthen (bthen hb1 hb2) hb3⟩
def irV (zs : List Int) (zss : List (List Int)) : Bool := (vList zs && rOk zss) && decide (srt zss.flatten = srt zs)
set_option maxRecDepth 100000 in
set_option maxHeartbeats 1600000 in
theorem IsRunPartition_any (A0 : Option Addr) (z0 : List Int) (c0 : Nat) (A1 : Option Addr) (z1 : List (List Int)) (c1 : Nat) (w : World) (hx0 : Reads w w.heap.size 1 A0 z0.length (ints z0)) (hl0 : z0.length ≤ 1048576)
    (hx1 : ReadsRR w w.heap.size A1 z1) (hl1 : z1.length + (z1.map List.length).sum ≤ 1048576) :
    Calls Try.prog 24 #[.slice A0 z0.length c0, .slice A1 z1.length c1] w fun e w' => e = .returned (.tuple #[.bool (irV z0 z1), .bool (vList z0)]) ∧ Below w.heap.size w w' := by
  cases hv : vList z0
  · rw [show irV z0 z1 = false from by simp [irV, hv]]
    go_enter Try.func24, Try.ntmps24
    go_wp2_with (go_at_call 36; refine (IsValidList_any A0 z0 c0 _ hx0 (by omega)).mono ?_; rintro e w1 ⟨rfl, hb1⟩; rw [hv])
    exact bodyPost_ret (v := .tuple #[.bool false, .bool false]) (by simp [results, Try.results24, go_sem]) rfl ⟨rfl, hb1⟩
  · have HV := Lib.hid hv
    cases hr : rOk z1
    · rw [show irV z0 z1 = false from by simp [irV, hr]]
      clear hv
      go_enter Try.func24, Try.ntmps24
      go_wp2_with (first
        | (go_at_call 36; refine (IsValidList_any A0 z0 c0 _ hx0 (by omega)).mono ?_; rintro e w1 ⟨rfl, hb1⟩; rw [HV.out])
        | (go_at_call 37; refine (areRuns_any A1 z1 c1 _ ((hx1.below hb1).more hb1.size) (by omega) (by omega)).mono ?_; rintro e w2 ⟨rfl, hb2⟩; rw [hr]))
      exact bodyPost_ret (v := .tuple #[.bool false, .bool true]) (by simp [results, Try.results24, go_sem]) rfl ⟨rfl, bthen hb1 hb2⟩
    · have HR := Lib.hid hr
      have HI := Lib.hid (show irV z0 z1 = decide (srt z1.flatten = srt z0) from by simp [irV, hv, hr])
      have HFL := Lib.hid (flat_len z1)
      obtain ⟨fl, hfl⟩ : ∃ fl, fl = z1.flatten := ⟨_, rfl⟩
      rw [← hfl] at HFL HI
      have HF := Lib.hid hfl; clear hfl
      have HS1 := Lib.hid (srt_len fl)
      have HS0 := Lib.hid (srt_len z0)
      clear hv hr
      go_enter Try.func24, Try.ntmps24
      go_wp2_with (first
        | (go_at_call 36; refine (IsValidList_any A0 z0 c0 _ hx0 (by omega)).mono ?_; rintro e w1 ⟨rfl, hb1⟩; rw [HV.out])
        | (go_at_call 37; refine (areRuns_any A1 z1 c1 _ ((hx1.below hb1).more hb1.size) (by omega) (by omega)).mono ?_; rintro e w2 ⟨rfl, hb2⟩; rw [HR.out]))
      have hB2 := bthen hb1 hb2
      refine (Concat_f A1 z1 c1 fl HF.out _ ((hx1.below hB2).more hB2.size) (by omega) (by omega)).mono ?_
      rintro e w3 ⟨v3, rfl, ho3, hb3⟩
      obtain ⟨A3, c3, rfl⟩ := own_slice ho3
      go_wp2_with fail
      refine (sorted_any A3 fl c3 _ (Reads.of_own ho3) (by have := HFL.out; omega)).mono ?_
      rintro e w4 ⟨v4, rfl, ho4, hb4⟩
      obtain ⟨A4, c4, rfl⟩ := own_slice ho4
      have hB4 := bthen (bthen hB2 hb3) hb4
      go_wp2_with fail
      refine (sorted_any A0 z0 c0 _ ((hx0.below hB4).more hB4.size) (by omega)).mono ?_
      rintro e w5 ⟨v5, rfl, ho5, hb5⟩
      obtain ⟨A5, c5, rfl⟩ := own_slice ho5
      have ho45 := own_below ho4 hb5 (Nat.le_refl _)
      have hB5 := bthen hB4 hb5
      have hcE := sEqual_any A4 A5 (srt fl) (srt z0) c4 c5 w5 (by rw [HS1.out]; exact Reads.of_own ho45) (by rw [HS0.out]; exact Reads.of_own ho5) (by have := HFL.out; have := HS1.out; omega) (by have := HS0.out; omega)
      rw [HS1.out, HS0.out] at hcE
      have HE := Lib.hid hcE; clear hcE
      go_wp2_with fail
      refine HE.out.mono ?_
      clear HE
      rintro e w6 ⟨rfl, hd6⟩
      go_wp2_with fail
      exact bodyPost_ret (v := .tuple #[.bool (decide (srt fl = srt z0)), .bool true]) (by simp [results, Try.results24, go_sem]) rfl ⟨by rw [HI.out], bthen hB5 (below_of_drewN hd6)⟩
end Go.Proofs.Ytecbagdljgnloaa
