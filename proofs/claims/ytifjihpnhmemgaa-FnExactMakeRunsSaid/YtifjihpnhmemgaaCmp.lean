/- Contracts of the helpers on lists of comparators. -/
import Derived.Test.YtifjihpnhmemgaaCore
import Derived.StillTailTactics
import Derived.Deep.RegionHeld3
namespace Go.Proofs.Ytifjihpnhmemgaa
open Go.RowKit
set_option linter.unusedVariables false

/-- the cells of a list of comparators -/
def cmps (cs : List (Int × Int)) : List Value := cs.flatMap fun c => [.int .i64 c.1, .int .i64 c.2]
@[simp] theorem cmps_nil : cmps [] = [] := rfl
@[simp] theorem cmps_cons (c : Int × Int) (cs : List (Int × Int)) : cmps (c :: cs) = .int .i64 c.1 :: .int .i64 c.2 :: cmps cs := rfl
@[simp] theorem cmps_append (xs ys : List (Int × Int)) : cmps (xs ++ ys) = cmps xs ++ cmps ys := by simp [cmps]
@[simp] theorem cmps_length (cs : List (Int × Int)) : (cmps cs).length = cs.length * 2 := by
  induction cs with
  | nil => rfl
  | cons c cs ih => simp [ih]; omega
theorem cmps_get {cs : List (Int × Int)} {k : Nat} (h : k < cs.length) : (cmps cs)[k * 2]? = some (.int .i64 cs[k].1) ∧ (cmps cs)[k * 2 + 1]? = some (.int .i64 cs[k].2) := by
  induction cs generalizing k with
  | nil => simp at h
  | cons c cs ih =>
    cases k with
    | zero => simp
    | succ k =>
      have := ih (k := k) (by simpa using h)
      rw [show (k + 1) * 2 = k * 2 + 1 + 1 from by omega]
      simpa using this
theorem cmps_one (cs : List (Int × Int)) : ∀ u ∈ cmps cs, u.oneCell' = true := by
  induction cs with
  | nil => simp
  | cons c cs ih => intro u hu; simp at hu; rcases hu with rfl | rfl | hu
                    · rfl
                    · rfl
                    · exact ih u hu
theorem Reads.cmp {w : World} {B : Nat} {A : Option Addr} {cs : List (Int × Int)} {k : Nat} (h : Reads w B 2 A cs.length (cmps cs)) (hk : k < cs.length) :
    ∃ ad, A = some ad ∧ ad.block < B ∧ w.cell? (ad.add (k * 2)) = some (.int .i64 cs[k].1) ∧ w.cell? ⟨(ad.add (k * 2)).block, (ad.add (k * 2)).off + 1, none⟩ = some (.int .i64 cs[k].2) := by
  obtain ⟨ad, e, hb, hc⟩ := h.2 (by omega)
  refine ⟨ad, e, hb, hc _ _ (cmps_get hk).1, ?_⟩
  have := hc _ _ (cmps_get hk).2
  rw [← add_of_add] at this
  exact this

theorem cmps_push {w : World} {B : Nat} {e : TypeId} {v : Value} {acc : List (Int × Int)} {a b : Int} (h : w.ownsRow B e 2 v (acc.length + 1) (cmps acc ++ #[Value.int .i64 a, .int .i64 b].toList)) :
    w.ownsRow B e 2 v (acc ++ [(a, b)]).length (cmps (acc ++ [(a, b)])) := by simpa using h
/-- the marks that a walk through n comparators leaves, from k on -/
def cmarks (k : Int) (n : Nat) : List (Int × Int) := (List.range n).map fun i : Nat => (k + 2 * i, k + 2 * i + 1)
@[simp] theorem cmarks_length (k : Int) (n : Nat) : (cmarks k n).length = n := by simp [cmarks]
theorem cmarks_get {k : Int} {n i : Nat} (h : i < n) : (cmarks k n)[i]'(by simpa using h) = (k + 2 * i, k + 2 * i + 1) := by simp [cmarks]
theorem cmps_set1 (cs : List (Int × Int)) (k : Nat) (z : Int) (h : k < cs.length) : (cmps cs).set (k * 2) (.int .i64 z) = cmps (cs.set k (z, cs[k].2)) := by
  induction cs generalizing k with
  | nil => simp at h
  | cons c cs ih =>
    cases k with
    | zero => simp
    | succ k =>
      rw [show (k + 1) * 2 = k * 2 + 1 + 1 from by omega]
      simpa using ih k (by simpa using h)
theorem cmps_set2 (cs : List (Int × Int)) (k : Nat) (z : Int) (h : k < cs.length) : (cmps cs).set (k * 2 + 1) (.int .i64 z) = cmps (cs.set k (cs[k].1, z)) := by
  induction cs generalizing k with
  | nil => simp at h
  | cons c cs ih =>
    cases k with
    | zero => simp
    | succ k =>
      rw [show (k + 1) * 2 + 1 = (k * 2 + 1) + 1 + 1 from by omega]
      simpa using ih k (by simpa using h)
end Go.Proofs.Ytifjihpnhmemgaa
