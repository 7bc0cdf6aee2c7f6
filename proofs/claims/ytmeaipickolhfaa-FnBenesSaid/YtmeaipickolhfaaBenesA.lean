/- BenesApply, both sides. -/
import Derived.Test.YtmeaipickolhfaaBenes
namespace Go.Proofs.Ytmeaipickolhfaa
open Go.RowKit
set_option linter.unusedVariables false
def bnOk (l : List Int) (s : List Bool) : Bool := (vList l && decide (0 < benesV l.length)) && decide ((s.length : Int) = benesV l.length)
def bnV (l : List Int) (s : List Bool) : List Int := if bnOk l s then benF (Nat.log2 l.length - 1) l s else []
theorem bn_pow : ∀ k : Fin 65, 0 < benesV (k.val : Nat) → k.val = 2 ^ (Nat.log2 k.val - 1 + 1) ∧ Nat.log2 k.val - 1 ≤ 5 ∧ benesV (k.val : Nat) = (bsz (Nat.log2 k.val - 1) : Nat) := by decide +kernel
theorem bn_parts {l : List Int} {s : List Bool} (h : bnOk l s = true) : vList l = true ∧ 0 < benesV l.length ∧ (s.length : Int) = benesV l.length ∧ l.length = 2 ^ (Nat.log2 l.length - 1 + 1) ∧ Nat.log2 l.length - 1 ≤ 5 ∧ s.length = bsz (Nat.log2 l.length - 1) ∧ 2 ≤ l.length ∧ l.length ≤ 64 := by
  simp only [bnOk, Bool.and_eq_true, decide_eq_true_eq] at h
  obtain ⟨⟨h1, h2⟩, h3⟩ := h
  have h4 : 2 ≤ l.length ∧ l.length ≤ 64 := by
    by_cases c : (l.length : Int) < 2 ∨ 64 < (l.length : Int)
    · rw [benesV_out _ c] at h2; omega
    · omega
  obtain ⟨p1, p2, p3⟩ := bn_pow ⟨l.length, by omega⟩ h2
  simp only at p1 p2 p3
  exact ⟨h1, h2, h3, p1, p2, by omega, h4.1, h4.2⟩
theorem bn_len (l : List Int) (s : List Bool) : (bnV l s).length ≤ 64 := by
  unfold bnV
  split
  · rename_i h
    obtain ⟨_, _, _, h4, _, _, _, h8⟩ := bn_parts h
    rw [benF_len _ _ _ h4]
    omega
  · simp
theorem bn_some {l : List Int} {s : List Bool} (h : bnOk l s = true) : bnV l s = benF (Nat.log2 l.length - 1) l s ∧ (bnV l s).length = l.length := by
  have e : bnV l s = benF (Nat.log2 l.length - 1) l s := by rw [bnV, if_pos h]
  obtain ⟨_, _, _, h4, _⟩ := bn_parts h
  exact ⟨e, by rw [e, benF_len _ _ _ h4]; exact h4.symm⟩
theorem benes_all (f : Nat) : f ≤ 5 → ∀ (A : Option Addr) (l : List Int) (c : Nat) (A' : Option Addr) (s : List Bool) (c' : Nat) (w : World), l.length = 2 ^ (f + 1) → s.length = bsz f → bsz f ≤ c' → Reads w w.heap.size 1 A (2 ^ (f + 1)) (ints l) → Reads w w.heap.size 1 A' (bsz f) (bools s) →
    Calls Try.prog 50 #[.slice A (2 ^ (f + 1)) c, .slice A' (bsz f) c'] w fun e w' => ∃ v, e = .returned v ∧ w'.ownsRow w.heap.size 3 1 v (2 ^ (f + 1)) (ints (benF f l s)) ∧ Below w.heap.size w w' := by
  induction f with
  | zero =>
    intro _ A l c A' s c' w hl hs _ hx hy
    exact benes_any_zero A l c A' s c' w hl hs hx hy
  | succ f ih =>
    intro hf A l c A' s c' w hl hs hc hx hy
    obtain ⟨b1, b2⟩ := bsz_bd ⟨f, by omega⟩
    have e : 2 ^ (f + 1 + 1) = 2 * 2 ^ (f + 1) := by rw [Nat.pow_succ 2 (f + 1)]; omega
    have e2 : bsz (f + 1) = 2 * 2 ^ (f + 1) + 2 * bsz f := by rw [bsz, ← e]
    have h2 := Nat.one_le_two_pow (n := f)
    have h3 : 2 ^ (f + 1) = 2 * 2 ^ f := by rw [Nat.pow_succ]; omega
    simp only at b1 b2
    have hh : 2 ^ (f + 1) ≤ 32 := by
      have : 2 ^ (f + 1) ≤ 2 ^ 5 := Nat.pow_le_pow_right (by omega) (by omega)
      omega
    rw [e] at hl hx ⊢
    rw [e2] at hs hc hy ⊢
    exact benes_any_succ f (2 ^ (f + 1)) (bsz f) A l c A' s c' w (by omega) hh (bsz_pos f) b1 hl hs hc hx hy (Lib.hid (bsz_szf ⟨f, by omega⟩)) (Lib.hid rfl) (Lib.hid fun l s h => benF_len f l s h)
      (Lib.hid fun A l c A' s c' w g1 g2 g3 g4 g5 => ih (by omega) A l c A' s c' w g1 g2 g3 g4 g5)
theorem BenesApply_any (A0 : Option Addr) (z0 : List Int) (c0 : Nat) (A1 : Option Addr) (z1 : List Bool) (c1 : Nat) (w : World) (hx0 : Reads w w.heap.size 1 A0 z0.length (ints z0)) (hl0 : z0.length ≤ 1048576)
    (hx1 : Reads w w.heap.size 1 A1 z1.length (bools z1)) (hl1 : z1.length ≤ 1048576) (hc1 : z1.length ≤ c1) :
    Calls Try.prog 29 #[.slice A0 z0.length c0, .slice A1 z1.length c1] w fun e w' => ∃ A c, e = .returned (.tuple #[.slice A (bnV z0 z1).length c, .bool (bnOk z0 z1)]) ∧
      w'.ownsRow w.heap.size 3 1 (.slice A (bnV z0 z1).length c) (bnV z0 z1).length (ints (bnV z0 z1)) ∧ Below w.heap.size w w' := by
  cases hok : bnOk z0 z1
  · rw [show bnV z0 z1 = [] from by simp [bnV, hok]]
    have hB := Lib.hid (BenesSize_any (z0.length : Int) w (by omega) (by omega))
    obtain ⟨V, hV⟩ : ∃ V, benesV (z0.length : Int) = V := ⟨_, rfl⟩
    simp only [bnOk, hV] at hok
    rw [hV] at hB
    clear hV
    cases hv : vList z0
    case false =>
      have HV := Lib.hid hv
      clear hok hv
      go_enter Try.func29, Try.ntmps29
      go_wp2_with (first | (go_at_call 28; refine hB.out.mono ?_; rintro e w' ⟨rfl, rfl⟩) | (go_at_call 38; refine (IsValidList_any A0 z0 c0 _ hx0 (by omega)).mono ?_; rintro e w1 ⟨rfl, hb1⟩; rw [HV.out]))
      exact bodyPost_ret (v := .tuple #[.slice none 0 0, .bool false]) (by simp [results, Try.results29, go_sem]) rfl ⟨none, 0, rfl, World.ownsRow_nil _ _ _ _, hb1⟩
    case true =>
      have HV := Lib.hid hv
      rw [hv] at hok
      clear hv
      cases hp : decide (0 < V)
      case false =>
        rw [hp] at hB
        clear hok hp
        go_enter Try.func29, Try.ntmps29
        go_wp2_with (first | (go_at_call 28; refine hB.out.mono ?_; rintro e w' ⟨rfl, rfl⟩) | (go_at_call 38; refine (IsValidList_any A0 z0 c0 _ hx0 (by omega)).mono ?_; rintro e w1 ⟨rfl, hb1⟩; rw [HV.out]))
        exact bodyPost_ret (v := .tuple #[.slice none 0 0, .bool false]) (by simp [results, Try.results29, go_sem]) rfl ⟨none, 0, rfl, World.ownsRow_nil _ _ _ _, hb1⟩
      case true =>
        rw [hp] at hB hok
        have e1 : ((z1.length : Int) != V) = true := by
          simp at hok
          rw [bne_iff_ne]
          exact hok
        clear hok hp
        go_enter Try.func29, Try.ntmps29
        go_wp2_with (first | (go_at_call 28; refine hB.out.mono ?_; rintro e w' ⟨rfl, rfl⟩) | (go_at_call 38; refine (IsValidList_any A0 z0 c0 _ hx0 (by omega)).mono ?_; rintro e w1 ⟨rfl, hb1⟩; rw [HV.out]))
        exact bodyPost_ret (v := .tuple #[.slice none 0 0, .bool false]) (by simp [results, Try.results29, go_sem]) rfl ⟨none, 0, rfl, World.ownsRow_nil _ _ _ _, hb1⟩
  · obtain ⟨hv, hp, he, p1, p2, p3, p4, p5⟩ := bn_parts hok
    obtain ⟨q1, q2⟩ := bn_some hok
    have hB := Lib.hid (BenesSize_any (z0.length : Int) w (by omega) (by omega))
    obtain ⟨f, hf⟩ : ∃ f, Nat.log2 z0.length - 1 = f := ⟨_, rfl⟩
    rw [hf] at p1 p2 p3 q1
    have hC := fun (w1 : World) (hb : Below w.heap.size w w1) => benes_all f p2 A0 z0 c0 A1 z1 c1 w1 p1 p3 (by omega) (by rw [← p1]; exact (hx0.below hb).more hb.size) (by rw [← p3]; exact (hx1.below hb).more hb.size)
    rw [← p1, ← p3] at hC
    have HC := Lib.hid hC
    rw [← he] at hB
    have e1 : ((z1.length : Int) != (z1.length : Int)) = false := by simp
    have e2 : decide ((0 : Int) < (z1.length : Int)) = true := by rw [decide_eq_true_eq]; omega
    rw [e2] at hB
    have HV := Lib.hid hv; have Q1 := Lib.hid q1; have Q2 := Lib.hid q2
    clear hok hv hp he p1 p2 p3 q1 q2 hf hC e2
    go_enter Try.func29, Try.ntmps29
    go_wp2_with (first | (go_at_call 28; refine hB.out.mono ?_; rintro e w' ⟨rfl, rfl⟩) | (go_at_call 38; refine (IsValidList_any A0 z0 c0 _ hx0 (by omega)).mono ?_; rintro e w1 ⟨rfl, hb1⟩; rw [HV.out]))
    refine (HC.out _ hb1).mono ?_
    rintro e w2 ⟨v, rfl, ho, hb2⟩
    obtain ⟨A, C, rfl⟩ := own_slice ho
    go_wp2_with fail
    exact bodyPost_ret (v := .tuple #[.slice A z0.length C, .bool true]) (by simp [results, Try.results29, go_sem]) rfl ⟨A, C, by rw [Q2.out], by rw [Q2.out, Q1.out]; exact own_base ho hb1.size, bthen hb1 hb2⟩
end Go.Proofs.Ytmeaipickolhfaa
