/- What the builders of networks build. Plain. -/
import Derived.Test.YtkhfilkikpiepaaLib
import Derived.Laws.BitsLemmas
import Derived.Laws.Entries
namespace Go.Proofs.Ytkhfilkikpiepaa
open Go.RowKit
set_option linter.unusedVariables false
/-- a loop that puts comparators -/
def loopL {σ : Type} (c : σ → Bool) (b : σ → List (Int × Int)) (nx : σ → σ) : Nat → σ → List (Int × Int)
  | 0, _ => []
  | f + 1, s => if c s then b s ++ loopL c b nx f (nx s) else []
theorem loopL_true {σ : Type} {c : σ → Bool} {b : σ → List (Int × Int)} {nx : σ → σ} {f : Nat} {s : σ} (h : c s = true) : loopL c b nx (f + 1) s = b s ++ loopL c b nx f (nx s) := by
  rw [loopL, if_pos h]
theorem loopL_false {σ : Type} {c : σ → Bool} {b : σ → List (Int × Int)} {nx : σ → σ} {f : Nat} {s : σ} (h : c s = false) : loopL c b nx f s = [] := by
  cases f with
  | zero => rfl
  | succ f => rw [loopL, h]; rfl
def stepB (k : Nat) : List (Int × Int) := [((k : Int), (k : Int) + 1)]
def bubB (r : Nat) : List (Int × Int) := loopL (fun k => decide (k < r)) stepB (fun k => k + 1) 64 0
def bubbleL (W : Nat) : List (Int × Int) := loopL (fun r => decide (1 ≤ r)) bubB (fun r => r - 1) (W - 1) (W - 1)
def oddB (W r : Nat) : List (Int × Int) := loopL (fun k => decide (k + 1 < W)) stepB (fun k => k + 2) 64 (r % 2)
def oddEvenL (W : Nat) : List (Int × Int) := loopL (fun r => decide (r < W)) (oddB W) (fun r => r + 1) 64 0
def batI (p k j q : Nat) : List (Int × Int) := if (q + j) / (2 * p) = (q + j + k) / (2 * p) then [((q : Int) + j, (q : Int) + j + k)] else []
def batJ (W p k j : Nat) : List (Int × Int) := loopL (fun q => decide (q < k) && decide (q + j + k < W)) (batI p k j) (fun q => q + 1) 64 0
def batK (W p k : Nat) : List (Int × Int) := loopL (fun j => decide (j + k < W)) (batJ W p k) (fun j => j + 2 * k) 64 (k % p)
def batB (W p : Nat) : List (Int × Int) := loopL (fun k => decide (1 ≤ k)) (batK W p) (fun k => k / 2) 64 p
def batcherL (W : Nat) : List (Int × Int) := loopL (fun p => decide (p < W)) (batB W) (fun p => p * 2) 64 1
def btqM (k j q : Nat) : Nat := if j = k / 2 then q ^^^ (k - 1) else q ^^^ j
def btqI (k j q : Nat) : List (Int × Int) := if q < btqM k j q then [((q : Int), (btqM k j q : Int))] else []
def btqJ (W k j : Nat) : List (Int × Int) := loopL (fun q => decide (q < W)) (btqI k j) (fun q => q + 1) 64 0
def btqB (W k : Nat) : List (Int × Int) := loopL (fun j => decide (1 ≤ j)) (btqJ W k) (fun j => j / 2) 64 (k / 2)
def bitonicL (W : Nat) : List (Int × Int) := loopL (fun k => decide (k ≤ W)) (btqB W) (fun k => k * 2) 64 2
theorem len_fin {g : Nat → List (Int × Int)} {n m : Nat} (h : ∀ k : Fin (n + 1), (g k.val).length ≤ m) (W : Nat) (hW : W ≤ n) : (g W).length ≤ m := h ⟨W, by omega⟩
theorem bubbleL_len (W : Nat) (hW : W ≤ 16) : (bubbleL W).length ≤ 4096 := len_fin (n := 16) (by decide +kernel) W hW
theorem oddEvenL_len (W : Nat) (hW : W ≤ 64) : (oddEvenL W).length ≤ 4096 := len_fin (n := 64) (by decide +kernel) W hW
theorem batcherL_len (W : Nat) (hW : W ≤ 16) : (batcherL W).length ≤ 4096 := len_fin (n := 16) (by decide +kernel) W hW
theorem bitonicL_len (W : Nat) (hW : W ≤ 16) : (bitonicL W).length ≤ 4096 := len_fin (n := 16) (by decide +kernel) W hW
theorem i64_xor_ (a b : Nat) (ha : a < 4611686018427387904) (hb : b < 4611686018427387904) : bits .xor .i64 a b = ((a ^^^ b : Nat) : Int) := by
  have ha' : a % 2 ^ 64 = a := Nat.mod_eq_of_lt (by omega)
  have hb' : b % 2 ^ 64 = b := Nat.mod_eq_of_lt (by omega)
  have hx : a ^^^ b < 2 ^ 62 := Nat.xor_lt_two_pow (by omega) (by omega)
  show IntKind.i64.wrap ((BitVec.ofInt 64 (a : Int) ^^^ BitVec.ofInt 64 (b : Int)).toNat : Nat) = _
  simp only [BitVec.ofInt_natCast, BitVec.toNat_xor, BitVec.toNat_ofNat, ha', hb']
  rw [IntKind.wrap_i64]
  omega
end Go.Proofs.Ytkhfilkikpiepaa
