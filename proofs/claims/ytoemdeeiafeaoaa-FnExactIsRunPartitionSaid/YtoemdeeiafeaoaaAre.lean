/- Lists of runs: valid or not, on both sides. -/
import Derived.Test.YtoemdeeiafeaoaaFlat
import Derived.Test.YtoemdeeiafeaoaaDesc
import Derived.Test.YtoemdeeiafeaoaaSortI
namespace Go.Proofs.Ytoemdeeiafeaoaa
open Go.RowKit
set_option linter.unusedVariables false
def runOk (zs : List Int) : Bool := (decide (0 < zs.length) && vList zs) && decide (desc zs < 0)
def rOk (zss : List (List Int)) : Bool := zss.all runOk && decide ((zss.map List.length).sum ≤ 64)
theorem runOk_len {zs : List Int} (h : runOk zs = true) : 0 < zs.length ∧ zs.length ≤ 64 := by
  simp [runOk, vList] at h
  exact ⟨h.1.1, h.1.2.1⟩
def mrV (zss : List (List Int)) : List Int := if rOk zss then srt zss.flatten else []
theorem mr_len (zss : List (List Int)) : (mrV zss).length ≤ 64 := by
  unfold mrV
  split
  · rename_i h
    simp only [rOk, Bool.and_eq_true, decide_eq_true_eq] at h
    rw [srt_len, flat_len]; exact h.2
  · simp
set_option maxRecDepth 100000 in
set_option maxHeartbeats 1600000 in
theorem areRuns_any (A : Option Addr) (zss : List (List Int)) (c : Nat) (w : World) (hx : ReadsRR w w.heap.size A zss) (hl : zss.length ≤ 1048576) (hs : (zss.map List.length).sum ≤ 1048576) :
    Calls Try.prog 42 #[.slice A zss.length c] w fun e w' => e = .returned (.bool (rOk zss)) ∧ Below w.heap.size w w' := by
  have hml : (zss.map List.length).length = zss.length := by simp
  have HRO := Lib.hid (show rOk zss = (zss.all runOk && decide ((zss.map List.length).sum ≤ 64)) from rfl)
  have HGE : Hid (∀ k (h : k < zss.length), zss[k].length = (zss.map List.length)[k]?.getD 0) := Lib.hid (by intro k h; simp [h])
  generalize hls : zss.map List.length = ls at *
  clear hls
  go_enter Try.func42, Try.ntmps42
  go_wp2_with fail
  go_loopw [3, 8] (fun t i wr => ∃ k : Nat, k ≤ zss.length ∧ i = .int .i64 k ∧ t = .int .i64 ((ls.take k).sum : Nat) ∧ Hid ((zss.take k).all runOk = true) ∧ Below w.heap.size w wr) (fun _ i _ => zss.length - (intOf i).toNat)
  case atStart => exact ⟨0, by omega, rfl, by simp, Lib.hid (by simp), Below.refl _ _⟩
  case round =>
    obtain ⟨k, hk, rfl, rfl, HA, hb⟩ := hrel
    by_cases hlt : k < zss.length
    · obtain ⟨ad, A', c', rfl, hc, hr⟩ := (hx.below hb).at_ hlt
      have hkl : k < ls.length := by omega
      have hss := sum_take_succ hkl
      have hle := sum_take_le ls (k + 1)
      have hge := HGE.out k hlt
      rw [List.getElem?_eq_getElem hkl, Option.getD_some] at hge
      have HSS := Lib.hid hss
      have HGK := Lib.hid hge
      have hb1 : (ls.take k).sum + zss[k].length ≤ 1048576 := by omega
      have hrm := hr.more hb.size
      have HHit : Hid (runOk zss[k] = false → rOk zss = false) := Lib.hid fun h => by rw [HRO.out, all_hit hlt h]; rfl
      have HOn : Hid (runOk zss[k] = true → (zss.take (k + 1)).all runOk = true) := Lib.hid fun h => all_take_succ hlt HA.out h
      have HRK := Lib.hid (show runOk zss[k] = ((decide (0 < zss[k].length) && vList zss[k]) && decide (desc zss[k] < 0)) from rfl)
      clear hss hle hge hr
      generalize zss[k] = zk at *
      by_cases h0 : zk.length = 0
      · have hno := HHit.out (by rw [HRK.out, decide_eq_false (show ¬ 0 < zk.length by omega)]; rfl)
        have HNO := Lib.hid hno; clear hno
        have h0' : (zk.length : Int) = 0 := by omega
        go_wp2_with fail
        go_ret
        exact ⟨retb HNO.out.symm, hb⟩
      · have h0' : ((zk.length : Int) == 0) = false := by rw [beq_eq_false_iff_ne]; omega
        cases hv : vList zk
        · have hno := HHit.out (by rw [HRK.out, hv]; simp)
          have HNO := Lib.hid hno; clear hno
          go_wp2_with (go_at_call 31; refine (IsValidList_any A' zk c' _ hrm (by omega)).mono ?_; rintro e w1 ⟨rfl, hb2⟩; rw [hv])
          go_ret
          exact ⟨retb HNO.out.symm, bthen hb hb2⟩
        · have HV := Lib.hid hv
          cases hd : decide (desc zk < 0)
          · have hno := HHit.out (by rw [HRK.out, hd]; simp)
            have HNO := Lib.hid hno; clear hno
            have hdi : ¬ desc zk < 0 := by simpa using hd
            have hdi' : desc zk ≥ 0 := by omega
            have hdi2 : decide (desc zk ≥ 0) = true := by simpa using hdi'
            go_wp2_with (first
              | (go_at_call 31; refine (IsValidList_any A' zk c' _ hrm (by omega)).mono ?_; rintro e w1 ⟨rfl, hb2⟩; rw [HV.out])
              | (go_at_call 54; refine (descent_any A' zk c' _ ((hrm.below hb2).more hb2.size) (by omega)).mono ?_; rintro e w2 ⟨rfl, hd2⟩))
            go_ret
            exact ⟨retb HNO.out.symm, bthen (bthen hb hb2) (below_of_drewN hd2)⟩
          · have hdi : desc zk < 0 := by simpa using hd
            have hdi' : ¬ desc zk ≥ 0 := by omega
            have HON := Lib.hid (HOn.out (by rw [HRK.out, hv, hd, decide_eq_true (show 0 < zk.length by omega)]; rfl))
            go_wp2_with (first
              | (go_at_call 31; refine (IsValidList_any A' zk c' _ hrm (by omega)).mono ?_; rintro e w1 ⟨rfl, hb2⟩; rw [HV.out])
              | (go_at_call 54; refine (descent_any A' zk c' _ ((hrm.below hb2).more hb2.size) (by omega)).mono ?_; rintro e w2 ⟨rfl, hd2⟩))
            go_roundw
            case rel => exact ⟨k + 1, by omega, by go_num, by rw [HSS.out, ← HGK.out]; go_num, HON, bthen (bthen hb hb2) (below_of_drewN hd2)⟩
            case measure => simp [intOf]; omega
    · have e2 : (ls.take k).sum = ls.sum := by rw [List.take_of_length_le (by omega)]
      have hfin : rOk zss = decide (ls.sum ≤ 64) := by rw [HRO.out, all_end (by omega) HA.out, Bool.true_and]
      have HF := Lib.hid hfin
      rw [e2]
      clear hfin e2
      by_cases h64 : ls.sum ≤ 64
      · have h64' : ((ls.sum : Nat) : Int) ≤ 64 := by omega
        go_wp2_with fail
        go_ret
        exact ⟨retb (by rw [HF.out]; simp [h64]), hb⟩
      · have h64' : ¬ ((ls.sum : Nat) : Int) ≤ 64 := by omega
        go_wp2_with fail
        go_ret
        exact ⟨retb (by rw [HF.out]; simp [h64]), hb⟩
set_option maxRecDepth 100000 in
set_option maxHeartbeats 3200000 in
theorem l15Runs_any (A : Option Addr) (zss : List (List Int)) (c : Nat) (w : World) (hx : ReadsRR w w.heap.size A zss) (hl : zss.length ≤ 1048576) (hs : (zss.map List.length).sum ≤ 1048576) :
    Calls Try.prog 40 #[.slice A zss.length c] w fun e w' => e = .returned (.bool (rOk zss)) ∧ ∃ n, w' = w.drewN n := by
  have hml : (zss.map List.length).length = zss.length := by simp
  have HRO := Lib.hid (show rOk zss = (zss.all runOk && decide ((zss.map List.length).sum ≤ 64)) from rfl)
  have HGE : Hid (∀ k (h : k < zss.length), zss[k].length = (zss.map List.length)[k]?.getD 0) := Lib.hid (by intro k h; simp [h])
  generalize hls : zss.map List.length = ls at *
  clear hls
  go_enter Try.func40, Try.ntmps40
  go_wp2_with fail
  go_loopw [3, 4] (fun t i wr => ∃ k n : Nat, k ≤ zss.length ∧ i = .int .i64 k ∧ t = .int .i64 ((ls.take k).sum : Nat) ∧ (ls.take k).sum ≤ 64 ∧ Hid ((zss.take k).all runOk = true) ∧ wr = w.drewN n) (fun _ i _ => zss.length - (intOf i).toNat)
  case atStart => exact ⟨0, 0, by omega, rfl, by simp, by simp, Lib.hid (by simp), rfl⟩
  case round =>
    obtain ⟨k, n, hk, rfl, rfl, ht64, HA, rfl⟩ := hrel
    by_cases hlt : k < zss.length
    · obtain ⟨ad, A', c', rfl, hc, hr⟩ := hx.at_ hlt
      have hkl : k < ls.length := by omega
      have hss := sum_take_succ hkl
      have hle := sum_take_le ls (k + 1)
      have hge := HGE.out k hlt
      rw [List.getElem?_eq_getElem hkl, Option.getD_some] at hge
      have HSS := Lib.hid (show (ls.take (k + 1)).sum = (ls.take k).sum + zss[k].length by omega)
      have hb1 : (ls.take k).sum + zss[k].length ≤ 1048576 := by omega
      have HHit : Hid (runOk zss[k] = false → rOk zss = false) := Lib.hid fun h => by rw [HRO.out, all_hit hlt h]; rfl
      have HBig : Hid (64 < (ls.take k).sum + zss[k].length → rOk zss = false) := Lib.hid fun h => by rw [HRO.out, decide_eq_false (by omega), Bool.and_false]
      have HOn : Hid (runOk zss[k] = true → (zss.take (k + 1)).all runOk = true) := Lib.hid fun h => all_take_succ hlt HA.out h
      have HRK := Lib.hid (show runOk zss[k] = ((decide (0 < zss[k].length) && vList zss[k]) && decide (desc zss[k] < 0)) from rfl)
      clear hss hle hge
      generalize zss[k] = zk at *
      by_cases h0 : zk.length = 0
      · have HNO := Lib.hid (HHit.out (by rw [HRK.out, decide_eq_false (show ¬ 0 < zk.length by omega)]; rfl))
        have h0' : (zk.length : Int) = 0 := by omega
        go_wp2_with fail
        go_ret
        exact ⟨retb HNO.out.symm, n, rfl⟩
      · have h0' : ((zk.length : Int) == 0) = false := by rw [beq_eq_false_iff_ne]; omega
        by_cases hbig : 64 < (ls.take k).sum + zk.length
        · have HNO := Lib.hid (HBig.out hbig)
          have hbig' : (64 : Int) < ((ls.take k).sum : Nat) + (zk.length : Nat) := by omega
          go_wp2_with fail
          go_ret
          exact ⟨retb HNO.out.symm, n, rfl⟩
        · have hbig' : ¬ (64 : Int) < ((ls.take k).sum : Nat) + (zk.length : Nat) := by omega
          cases hv : vList zk
          · have HNO := Lib.hid (HHit.out (by rw [HRK.out, hv]; simp))
            go_wp2_with (go_at_call 30; refine (l2List_any A' zk c' _ (by exact hr) (by omega)).mono ?_; rintro e w1 ⟨rfl, rfl⟩; rw [hv])
            go_ret
            exact ⟨retb HNO.out.symm, n, rfl⟩
          · have HV := Lib.hid hv
            have HHD : Hid (∀ q, desc zk = ((q : Nat) : Int) → rOk zss = false) := Lib.hid fun q h => HHit.out (by rw [HRK.out, h, decide_eq_false (show ¬ ((q : Nat) : Int) < 0 by omega), Bool.and_false])
            have HOD : Hid (desc zk = -1 → (zss.take (k + 1)).all runOk = true) := Lib.hid fun h => HOn.out (by rw [HRK.out, h, HV.out, decide_eq_true (show 0 < zk.length by omega)]; rfl)
            clear hv
            go_wp2_with (go_at_call 30; refine (l2List_any A' zk c' _ (by exact hr) (by omega)).mono ?_; rintro e w1 ⟨rfl, rfl⟩; rw [HV.out])
            go_loopw [5] (fun i wr => ∃ q n : Nat, q ≤ zk.length - 1 ∧ i = .int .i64 (q + 1) ∧ wr = w.drewN n ∧ Hid ((List.range q).any (fun i => decide ((zk[i + 1]?.getD 0) < (zk[i]?.getD 0))) = false)) (fun i _ => zk.length - (intOf i).toNat)
            case atStart => exact ⟨0, n, by omega, rfl, rfl, Lib.hid (by simp)⟩
            case round =>
              obtain ⟨q, n2, hq, rfl, rfl, HN⟩ := hrel
              by_cases hql : q + 1 < zk.length
              · obtain ⟨bd, rfl, -, hd0⟩ := hr.int (show q < zk.length by omega)
                obtain ⟨cd, hcd, -, hd1⟩ := hr.int hql
                cases hcd
                rw [addr_succ] at hd1
                have ew : IntKind.i64.wrap (q : Int) = q := IntWalk.i64_in _ (by omega)
                have e0 : (0 : Int) ≤ (q : Int) + 1 := by omega
                have e1 : ((q : Int) + 1).toNat = q + 1 := by omega
                have j0 : (0 : Int) ≤ (q : Int) := by omega
                have j1 : (q : Int) < zk.length := by omega
                have j2 : (q : Int) + 1 < zk.length := by omega
                by_cases hp : zk[q + 1] < zk[q]
                · have HNO := Lib.hid (HHD.out q (desc_found hql HN.out hp))
                  go_wp2_with fail
                  go_quiet (fail)
                  go_wp2_with fail
                  go_ret
                  exact ⟨retb HNO.out.symm, n2 + nq, by rw [World.drewN_drewN]⟩
                · have HSU := Lib.hid (desc_succ hql HN.out (by omega))
                  go_wp2_with fail
                  go_quiet (fail)
                  go_wp2_with fail
                  go_roundw
                  case rel => exact ⟨q + 1, n2 + nq, by omega, by go_num, by first | rfl | rw [World.drewN_drewN], HSU⟩
                  case measure => simp [intOf]; omega
              · have HON := Lib.hid (HOD.out (desc_none (by have := HN.out; rwa [show zk.length - 1 = q from by omega])))
                have j2 : ¬ (q : Int) + 1 < zk.length := by omega
                go_wp2_with fail
                go_roundw
                case rel => exact ⟨k + 1, n2, by omega, by go_num, by rw [HSS.out]; go_num, by rw [HSS.out]; omega, HON, rfl⟩
                case measure => simp [intOf]; omega
    · have e2 : (ls.take k).sum = ls.sum := by rw [List.take_of_length_le (by omega)]
      have hfin : rOk zss = true := by rw [HRO.out, all_end (by omega) HA.out, decide_eq_true (by omega)]; rfl
      have HF := Lib.hid hfin
      clear hfin e2
      go_wp2_with fail
      go_ret
      exact ⟨retb HF.out.symm, n, rfl⟩
end Go.Proofs.Ytoemdeeiafeaoaa
