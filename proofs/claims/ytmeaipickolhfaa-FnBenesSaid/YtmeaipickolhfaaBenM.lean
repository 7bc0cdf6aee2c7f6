/- The Benes network as a function of lists. -/
import Derived.Test.YtmeaipickolhfaaLib
namespace Go.Proofs.Ytmeaipickolhfaa
def bsz : Nat → Nat
  | 0 => 1
  | f + 1 => 2 ^ (f + 2) + 2 * bsz f
def upL (l : List Int) (s : List Bool) (k : Nat) : List Int := (List.range k).map fun i => if s[i]?.getD false then l[2 * i + 1]?.getD 0 else l[2 * i]?.getD 0
def loL (l : List Int) (s : List Bool) (k : Nat) : List Int := (List.range k).map fun i => if s[i]?.getD false then l[2 * i]?.getD 0 else l[2 * i + 1]?.getD 0
def outP (U W : List Int) (t : List Bool) (i : Nat) : List Int := if t[i]?.getD false then [W[i]?.getD 0, U[i]?.getD 0] else [U[i]?.getD 0, W[i]?.getD 0]
def outL (U W : List Int) (t : List Bool) (k : Nat) : List Int := (List.range k).flatMap (outP U W t)
def benF : Nat → List Int → List Bool → List Int
  | 0, l, s => if s[0]?.getD false then [l[1]?.getD 0, l[0]?.getD 0] else l
  | f + 1, l, s => outL (benF f (upL l s (2 ^ (f + 1))) ((s.drop (2 ^ (f + 1))).take (bsz f))) (benF f (loL l s (2 ^ (f + 1))) ((s.drop (2 ^ (f + 1) + bsz f)).take (bsz f))) (s.drop (2 ^ (f + 1) + 2 * bsz f)) (2 ^ (f + 1))
theorem upL_len (l : List Int) (s : List Bool) (k : Nat) : (upL l s k).length = k := by simp [upL]
theorem loL_len (l : List Int) (s : List Bool) (k : Nat) : (loL l s k).length = k := by simp [loL]
theorem upL_succ (l : List Int) (s : List Bool) (k : Nat) : upL l s (k + 1) = upL l s k ++ [if s[k]?.getD false then l[2 * k + 1]?.getD 0 else l[2 * k]?.getD 0] := by simp [upL, List.range_succ]
theorem loL_succ (l : List Int) (s : List Bool) (k : Nat) : loL l s (k + 1) = loL l s k ++ [if s[k]?.getD false then l[2 * k]?.getD 0 else l[2 * k + 1]?.getD 0] := by simp [loL, List.range_succ]
theorem outL_succ (U W : List Int) (t : List Bool) (k : Nat) : outL U W t (k + 1) = outL U W t k ++ outP U W t k := by simp [outL, List.range_succ]
theorem outL_len (U W : List Int) (t : List Bool) (k : Nat) : (outL U W t k).length = 2 * k := by
  induction k with
  | zero => rfl
  | succ k ih =>
    rw [outL_succ, List.length_append, ih]
    unfold outP
    split <;> (simp; omega)
theorem benF_len : ∀ (f : Nat) (l : List Int) (s : List Bool), l.length = 2 ^ (f + 1) → (benF f l s).length = 2 ^ (f + 1)
  | 0, l, s, h => by
    unfold benF
    split
    · rfl
    · exact h
  | f + 1, l, s, h => by
    unfold benF
    rw [outL_len, Nat.pow_succ 2 (f + 1)]
    omega
theorem bsz_pos (f : Nat) : 1 ≤ bsz f := by
  cases f with
  | zero => exact Nat.le_refl _
  | succ f => unfold bsz; have := Nat.one_le_two_pow (n := f + 2); omega
end Go.Proofs.Ytmeaipickolhfaa
