/- ReplaceWinner, the program's side. -/
import Derived.Test.YtifjihpnhmemgaaTreeV
import Derived.Deep.RegionHeld3
import Derived.Deep.DeepCutAuto
namespace Go.Proofs.Ytifjihpnhmemgaa
open Go.RowKit
set_option linter.unusedVariables false
def plen (p : Nat) : Nat := if p = 0 then 0 else p.log2 + 1
theorem plen_step {p : Nat} (h : 1 ≤ p) : plen p = plen (p / 2) + 1 := by
  unfold plen
  rw [if_neg (by omega)]
  by_cases h2 : p < 2
  · obtain rfl : p = 1 := by omega
    rfl
  · rw [if_neg (by omega), Nat.log2_def, if_pos (by omega)]
theorem plen_zero : plen 0 = 0 := rfl
theorem plen_le : ∀ (n p : Nat), p ≤ n → plen p ≤ p := by
  intro n
  induction n with
  | zero => intro p h; obtain rfl : p = 0 := by omega
            exact Nat.le_refl _
  | succ n ih =>
    intro p h
    by_cases h0 : p = 0
    · subst h0; exact Nat.le_refl _
    · rw [plen_step (by omega)]
      have := ih (p / 2) (by omega)
      omega
theorem winnerV_lt {ks : List Int} {ds : List Bool} (h : 1 ≤ ks.length) : winnerV ks ds < ks.length := plK_lt (by omega) _ _
def rwOk (ks : List Int) (ds : List Bool) (ls : List Int) (W key : Int) (done : Bool) : Bool := itOk ks ds ls W && (!(ds[winnerV ks ds]?.getD false) && (done || keyB key))
def rwKs (ks : List Int) (ds : List Bool) (key : Int) (done : Bool) : List Int := ks.set (winnerV ks ds) (if done then 0 else key)
def rwDs (ks : List Int) (ds : List Bool) (done : Bool) : List Bool := ds.set (winnerV ks ds) done
def rwK (ks : List Int) (ds : List Bool) (ls : List Int) (W key : Int) (done : Bool) : List Int := if rwOk ks ds ls W key done then rwKs ks ds key done else []
def rwD (ks : List Int) (ds : List Bool) (ls : List Int) (W key : Int) (done : Bool) : List Bool := if rwOk ks ds ls W key done then rwDs ks ds done else []
def rwL (ks : List Int) (ds : List Bool) (ls : List Int) (W key : Int) (done : Bool) : List Int := if rwOk ks ds ls W key done then loserI (rwKs ks ds key done) (rwDs ks ds done) else []
def rwW (ks : List Int) (ds : List Bool) (ls : List Int) (W key : Int) (done : Bool) : Int := if rwOk ks ds ls W key done then (winnerV (rwKs ks ds key done) (rwDs ks ds done) : Nat) else 0
def rwN (ks : List Int) (ds : List Bool) (ls : List Int) (W key : Int) (done : Bool) : Int := if rwOk ks ds ls W key done then (plen ((ks.length + winnerV ks ds) / 2) : Nat) else 0
theorem TreeRC.drew_ {w : World} {base C tI tB nK cK nD cD nL cL : Nat} {AK AD AL : Option Addr} {ks ls : List Int} {ds : List Bool} (h : TreeRC w base C tI tB AK nK cK AD nD cD AL nL cL ks ds ls) : TreeRC w.drew base C tI tB AK nK cK AD nD cD AL nL cL ks ds ls := ⟨h.k, h.d, h.l, h.ne, h.kC, h.dC, h.lC⟩
theorem it_parts {ks : List Int} {ds : List Bool} {ls : List Int} {W : Int} (h : itOk ks ds ls W = true) : 1 ≤ ks.length ∧ ks.length ≤ 16 ∧ ds.length = ks.length ∧ ls.length = ks.length ∧ W = (winnerV ks ds : Nat) := by
  simp only [itOk, Bool.and_eq_true, decide_eq_true_eq] at h
  obtain ⟨⟨⟨⟨h1, h2⟩, h3⟩, _⟩, _, h5⟩ := h
  have := inB_iff.1 h1
  exact ⟨by omega, by omega, h2, h3, h5.symm⟩
theorem rw_lens (ks : List Int) (ds : List Bool) (ls : List Int) (W key : Int) (done : Bool) : (rwK ks ds ls W key done).length ≤ 16 ∧ (rwD ks ds ls W key done).length ≤ 16 ∧ (rwL ks ds ls W key done).length ≤ 16 := by
  cases h : rwOk ks ds ls W key done
  · simp [rwK, rwD, rwL, h]
  · have h2 := h
    simp only [rwOk, Bool.and_eq_true] at h2
    obtain ⟨_, h3, h4, _, _⟩ := it_parts h2.1
    simp only [rwK, rwD, rwL, h, if_true]
    rw [loserI_len]
    simp only [rwKs, rwDs, List.length_set]
    omega
theorem pathLength_any (k leaf : Nat) (w : World) (hk : k + leaf ≤ 1048576) :
    Calls Try.prog 36 #[.int .i64 k, .int .i64 leaf] w fun e w' => e = .returned (.int .i64 (plen ((k + leaf) / 2) : Nat)) ∧ w = w' := by
  have hle := plen_le _ ((k + leaf) / 2) (Nat.le_refl _)
  obtain ⟨m, hm⟩ : ∃ m, (k + leaf) / 2 = m := ⟨_, rfl⟩
  have hmI : ((k : Int) + leaf) / 2 = (m : Nat) := by omega
  rw [hm] at hle ⊢
  have hm2 : m ≤ 1048576 := by omega
  have HMI := Lib.hid hmI
  clear hm hmI
  go_enter Try.func36, Try.ntmps36
  go_wp2_with fail
  rw [HMI.out]
  go_loop [5, 6] (fun n p => ∃ a b : Nat, a + plen b = plen m ∧ b ≤ m ∧ n = .int .i64 (a : Nat) ∧ p = .int .i64 (b : Nat)) (fun _ p => (intOf p).toNat)
  case atStart => exact ⟨0, m, by omega, Nat.le_refl _, rfl, rfl⟩
  case round =>
    obtain ⟨a, b, hab, hbm, rfl, rfl⟩ := hrel
    by_cases hb : 1 ≤ b
    · have hs := plen_step hb
      have hbI : (b : Int) ≥ 1 := by omega
      have hbI2 : (1 : Int) ≤ b := by omega
      go_wp2_with fail
      go_round
      case rel => exact ⟨a + 1, b / 2, by omega, by omega, by go_num, by go_num⟩
      case measure => simp [intOf]; omega
    · obtain rfl : b = 0 := by omega
      rw [plen_zero] at hab
      have HA : Hid (a = plen m) := Lib.hid (by omega)
      clear hab hle
      go_wp2_with fail
      go_ret
      exact ⟨congrArg (fun x : Nat => Ending.returned (.int .i64 (x : Int))) HA.out, rfl⟩
end Go.Proofs.Ytifjihpnhmemgaa
