/- Lists of integers and of truth values: comparing, marking and holding them. -/
import Derived.Test.YtifjihpnhmemgaaCore
namespace Go.Proofs.Ytifjihpnhmemgaa
open Go.RowKit
set_option linter.unusedVariables false
def imarks (k : Int) (n : Nat) : List Int := (List.range n).map fun i : Nat => k + i
@[simp] theorem imarks_length (k : Int) (n : Nat) : (imarks k n).length = n := by simp [imarks]
theorem imarks_get {k : Int} {n i : Nat} (h : i < n) : (imarks k n)[i]'(by simpa using h) = k + i := by simp [imarks]
def bmarks (k : Int) (n : Nat) : List Bool := (List.range n).map fun i : Nat => (k + i) % 3 == 0
@[simp] theorem bmarks_length (k : Int) (n : Nat) : (bmarks k n).length = n := by simp [bmarks]
theorem bmarks_get {k : Int} {n i : Nat} (h : i < n) : (bmarks k n)[i]'(by simpa using h) = ((k + i) % 3 == 0) := by simp [bmarks]
/-- the cells of a list of truth values -/
def bools (zs : List Bool) : List Value := zs.map Value.bool
@[simp] theorem bools_length (zs : List Bool) : (bools zs).length = zs.length := by simp [bools]
theorem bools_get {zs : List Bool} {k : Nat} (h : k < zs.length) : (bools zs)[k]? = some (.bool zs[k]) := by simp [bools, h]
theorem Reads.tv {w : World} {B : Nat} {A : Option Addr} {zs : List Bool} {k : Nat} (h : Reads w B 1 A zs.length (bools zs)) (hk : k < zs.length) :
    ∃ ad, A = some ad ∧ ad.block < B ∧ w.cell? (ad.add k) = some (.bool zs[k]) := by
  obtain ⟨ad, u, rfl, hb, hx, hc⟩ := h.at_ hk
  rw [bools_get hk] at hx; cases hx
  exact ⟨ad, rfl, hb, hc⟩
theorem bools_set (zs : List Bool) (k : Nat) (z : Bool) : (bools zs).set k (.bool z) = bools (zs.set k z) := by simp [bools, List.map_set]
end Go.Proofs.Ytifjihpnhmemgaa
