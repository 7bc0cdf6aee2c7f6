/- Lists of runs: valid or not, on both sides. -/
import Derived.Test.YtecbagdljgnloaaFlat
import Derived.Test.YtecbagdljgnloaaDesc
import Derived.Test.YtecbagdljgnloaaSortI
namespace Go.Proofs.Ytecbagdljgnloaa
open Go.RowKit
set_option linter.unusedVariables false
def runOk (zs : List Int) : Bool := (decide (0 < zs.length) && vList zs) && decide (desc zs < 0)
def rOk (zss : List (List Int)) : Bool := zss.all runOk && decide ((zss.map List.length).sum ≤ 64)
theorem runOk_len {zs : List Int} (h : runOk zs = true) : 0 < zs.length ∧ zs.length ≤ 64 := by
  simp [runOk, vList] at h
  exact ⟨h.1.1, h.1.2.1⟩
def mrV (zss : List (List Int)) : List Int := if rOk zss then srt zss.flatten else []
theorem mr_len (zss : List (List Int)) : (mrV zss).length ≤ 64 := by
  unfold mrV
  split
  · rename_i h
    simp only [rOk, Bool.and_eq_true, decide_eq_true_eq] at h
    rw [srt_len, flat_len]; exact h.2
  · simp
set_option maxRecDepth 100000 in
set_option maxHeartbeats 1600000 in
theorem areRuns_any (A : Option Addr) (zss : List (List Int)) (c : Nat) (w : World) (hx : ReadsRR w w.heap.size A zss) (hl : zss.length ≤ 1048576) (hs : (zss.map List.length).sum ≤ 1048576) :
    Calls Try.prog 37 #[.slice A zss.length c] w fun e w' => e = .returned (.bool (rOk zss)) ∧ Below w.heap.size w w' := by
  have hml : (zss.map List.length).length = zss.length := by simp
  have HRO := Lib.hid (show rOk zss = (zss.all runOk && decide ((zss.map List.length).sum ≤ 64)) from rfl)
  have HGE : Hid (∀ k (h : k < zss.length), zss[k].length = (zss.map List.length)[k]?.getD 0) := Lib.hid (by intro k h; simp [h])
  generalize hls : zss.map List.length = ls at *
  clear hls
  go_enter Try.func37, Try.ntmps37
  go_wp2_with fail
  go_loopw [3, 8] (fun t i wr => ∃ k : Nat, k ≤ zss.length ∧ i = .int .i64 k ∧ t = .int .i64 ((ls.take k).sum : Nat) ∧ Hid ((zss.take k).all runOk = true) ∧ Below w.heap.size w wr) (fun _ i _ => zss.length - (intOf i).toNat)
  case atStart => exact ⟨0, by omega, rfl, by simp, Lib.hid (by simp), Below.refl _ _⟩
  case round =>
    obtain ⟨k, hk, rfl, rfl, HA, hb⟩ := hrel
    by_cases hlt : k < zss.length
    · obtain ⟨ad, A', c', rfl, hc, hr⟩ := (hx.below hb).at_ hlt
      have hkl : k < ls.length := by omega
      have hss := sum_take_succ hkl
      have hle := sum_take_le ls (k + 1)
      have hge := HGE.out k hlt
      rw [List.getElem?_eq_getElem hkl, Option.getD_some] at hge
      have HSS := Lib.hid hss
      have HGK := Lib.hid hge
      have hb1 : (ls.take k).sum + zss[k].length ≤ 1048576 := by omega
      have hrm := hr.more hb.size
      have HHit : Hid (runOk zss[k] = false → rOk zss = false) := Lib.hid fun h => by rw [HRO.out, all_hit hlt h]; rfl
      have HOn : Hid (runOk zss[k] = true → (zss.take (k + 1)).all runOk = true) := Lib.hid fun h => all_take_succ hlt HA.out h
      have HRK := Lib.hid (show runOk zss[k] = ((decide (0 < zss[k].length) && vList zss[k]) && decide (desc zss[k] < 0)) from rfl)
      clear hss hle hge hr
      generalize zss[k] = zk at *
      by_cases h0 : zk.length = 0
      · have hno := HHit.out (by rw [HRK.out, decide_eq_false (show ¬ 0 < zk.length by omega)]; rfl)
        have HNO := Lib.hid hno; clear hno
        have h0' : (zk.length : Int) = 0 := by omega
        go_wp2_with fail
        go_ret
        exact ⟨retb HNO.out.symm, hb⟩
      · have h0' : ((zk.length : Int) == 0) = false := by rw [beq_eq_false_iff_ne]; omega
        cases hv : vList zk
        · have hno := HHit.out (by rw [HRK.out, hv]; simp)
          have HNO := Lib.hid hno; clear hno
          go_wp2_with (go_at_call 36; refine (IsValidList_any A' zk c' _ hrm (by omega)).mono ?_; rintro e w1 ⟨rfl, hb2⟩; rw [hv])
          go_ret
          exact ⟨retb HNO.out.symm, bthen hb hb2⟩
        · have HV := Lib.hid hv
          cases hd : decide (desc zk < 0)
          · have hno := HHit.out (by rw [HRK.out, hd]; simp)
            have HNO := Lib.hid hno; clear hno
            have hdi : ¬ desc zk < 0 := by simpa using hd
            have hdi' : desc zk ≥ 0 := by omega
            have hdi2 : decide (desc zk ≥ 0) = true := by simpa using hdi'
            go_wp2_with (first
              | (go_at_call 36; refine (IsValidList_any A' zk c' _ hrm (by omega)).mono ?_; rintro e w1 ⟨rfl, hb2⟩; rw [HV.out])
              | (go_at_call 53; refine (descent_any A' zk c' _ ((hrm.below hb2).more hb2.size) (by omega)).mono ?_; rintro e w2 ⟨rfl, hd2⟩))
            go_ret
            exact ⟨retb HNO.out.symm, bthen (bthen hb hb2) (below_of_drewN hd2)⟩
          · have hdi : desc zk < 0 := by simpa using hd
            have hdi' : ¬ desc zk ≥ 0 := by omega
            have HON := Lib.hid (HOn.out (by rw [HRK.out, hv, hd, decide_eq_true (show 0 < zk.length by omega)]; rfl))
            go_wp2_with (first
              | (go_at_call 36; refine (IsValidList_any A' zk c' _ hrm (by omega)).mono ?_; rintro e w1 ⟨rfl, hb2⟩; rw [HV.out])
              | (go_at_call 53; refine (descent_any A' zk c' _ ((hrm.below hb2).more hb2.size) (by omega)).mono ?_; rintro e w2 ⟨rfl, hd2⟩))
            go_roundw
            case rel => exact ⟨k + 1, by omega, by go_num, by rw [HSS.out, ← HGK.out]; go_num, HON, bthen (bthen hb hb2) (below_of_drewN hd2)⟩
            case measure => simp [intOf]; omega
    · have e2 : (ls.take k).sum = ls.sum := by rw [List.take_of_length_le (by omega)]
      have hfin : rOk zss = decide (ls.sum ≤ 64) := by rw [HRO.out, all_end (by omega) HA.out, Bool.true_and]
      have HF := Lib.hid hfin
      rw [e2]
      clear hfin e2
      by_cases h64 : ls.sum ≤ 64
      · have h64' : ((ls.sum : Nat) : Int) ≤ 64 := by omega
        go_wp2_with fail
        go_ret
        exact ⟨retb (by rw [HF.out]; simp [h64]), hb⟩
      · have h64' : ¬ ((ls.sum : Nat) : Int) ≤ 64 := by omega
        go_wp2_with fail
        go_ret
        exact ⟨retb (by rw [HF.out]; simp [h64]), hb⟩
end Go.Proofs.Ytecbagdljgnloaa
