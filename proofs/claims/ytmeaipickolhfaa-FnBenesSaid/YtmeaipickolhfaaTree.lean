/- The loser tree: the plain part; one match; the matches of a tree (the program's side). -/
import Derived.Test.YtmeaipickolhfaaHold
import Derived.Test.YtmeaipickolhfaaPush
import Derived.IntWalk
import Derived.Deep.QuietTactic
import Derived.BigQuiet
namespace Go.Proofs.Ytmeaipickolhfaa
open Go.RowKit
set_option linter.unusedVariables false
/-- leaf i beats leaf m -/
def beatsB (ks : List Int) (ds : List Bool) (i m : Nat) : Bool :=
  if (ds[i]?.getD false) = (ds[m]?.getD false) then
    (if (ks[i]?.getD 0) = (ks[m]?.getD 0) then decide (i < m) else decide ((ks[i]?.getD 0) < (ks[m]?.getD 0)))
  else ds[m]?.getD false
theorem beats_anti (ks : List Int) (ds : List Bool) (i m : Nat) (h : i ≠ m) : beatsB ks ds i m = !beatsB ks ds m i := by
  unfold beatsB
  by_cases h1 : (ds[i]?.getD false) = (ds[m]?.getD false)
  · rw [if_pos h1, if_pos h1.symm]
    by_cases h2 : (ks[i]?.getD 0) = (ks[m]?.getD 0)
    · rw [if_pos h2, if_pos h2.symm]
      rw [Bool.eq_iff_iff]; simp; omega
    · rw [if_neg h2, if_neg (fun e => h2 e.symm)]
      rw [Bool.eq_iff_iff]; simp; omega
  · rw [if_neg h1, if_neg (fun e => h1 e.symm)]
    cases h3 : ds[i]?.getD false <;> cases h4 : ds[m]?.getD false <;> simp_all
/-- the winner and the loser of a match -/
def winO (ks : List Int) (ds : List Bool) (a b : Nat) : Nat := if beatsB ks ds b a then b else a
def losO (ks : List Int) (ds : List Bool) (a b : Nat) : Nat := if beatsB ks ds b a then a else b
theorem win_spec (ks : List Int) (ds : List Bool) (a b : Nat) : (if beatsB ks ds a b then a else b) = winO ks ds a b ∧ (if beatsB ks ds a b then b else a) = losO ks ds a b := by
  unfold winO losO
  by_cases h : a = b
  · subst h; simp
  · rw [beats_anti ks ds a b h]
    cases beatsB ks ds b a <;> simp
/-- lists of leaves as cells -/
def nats (ns : List Nat) : List Value := ints (ns.map Int.ofNat)
@[simp] theorem nats_length (ns : List Nat) : (nats ns).length = ns.length := by simp [nats]
theorem nats_get {ns : List Nat} {k : Nat} (h : k < ns.length) : (nats ns)[k]? = some (.int .i64 (ns[k] : Nat)) := by simp [nats, ints, h]
theorem nats_set (ns : List Nat) (k z : Nat) : (nats ns).set k (.int .i64 (z : Nat)) = nats (ns.set k z) := by simp [nats, ints, List.map_set]
/-- the tree behind t matches: the winners of all nodes, the losers of the inner nodes -/
def plK (ks : List Int) (ds : List Bool) : Nat → List Nat × List Nat
  | 0 => (List.replicate ks.length 0 ++ List.range ks.length, List.replicate ks.length 0)
  | t + 1 =>
    let s := plK ks ds t
    let j := ks.length - 1 - t
    let a := s.1[2 * j]?.getD 0
    let b := s.1[2 * j + 1]?.getD 0
    (s.1.set j (winO ks ds a b), s.2.set j (losO ks ds a b))
theorem plK_len (ks : List Int) (ds : List Bool) : ∀ t, (plK ks ds t).1.length = 2 * ks.length ∧ (plK ks ds t).2.length = ks.length
  | 0 => by simp [plK]; omega
  | t + 1 => by have := plK_len ks ds t; simp [plK, this]
theorem winO_lt {ks : List Int} {ds : List Bool} {a b k : Nat} (ha : a < k) (hb : b < k) : winO ks ds a b < k ∧ losO ks ds a b < k := by
  unfold winO losO; cases beatsB ks ds b a <;> simp [ha, hb]
theorem plK_lt {ks : List Int} {ds : List Bool} (h0 : 0 < ks.length) : ∀ (t : Nat) (x : Nat), (plK ks ds t).1[x]?.getD 0 < ks.length
  | 0, x => by
    simp only [plK, List.getElem?_append, List.length_replicate]
    split
    · rw [List.getElem?_replicate]; split <;> simp <;> omega
    · rcases Nat.lt_or_ge (x - ks.length) ks.length with h | h
      · rw [List.getElem?_range h]; simp; omega
      · rw [List.getElem?_eq_none (by simpa using h)]; simpa using h0
  | t + 1, x => by
    have ih := plK_lt (ds := ds) h0 t
    simp only [plK, List.getElem?_set]
    split
    · split
      · exact (winO_lt (ih _) (ih _)).1
      · simpa using h0
    · exact ih x
def loserV (ks : List Int) (ds : List Bool) : List Nat := (plK ks ds (ks.length - 1)).2
def winnerV (ks : List Int) (ds : List Bool) : Nat := (plK ks ds (ks.length - 1)).1[1]?.getD 0
theorem loser_len (ks : List Int) (ds : List Bool) : (loserV ks ds).length = ks.length := (plK_len ks ds _).2
theorem plK_succ {ks : List Int} {ds : List Bool} {t j : Nat} (hj : ks.length - 1 - t = j) (ha : 2 * j + 1 < 2 * ks.length) :
    plK ks ds (t + 1) = ((plK ks ds t).1.set j (winO ks ds ((plK ks ds t).1[2 * j]'(by rw [(plK_len ks ds t).1]; omega)) ((plK ks ds t).1[2 * j + 1]'(by rw [(plK_len ks ds t).1]; omega))),
      (plK ks ds t).2.set j (losO ks ds ((plK ks ds t).1[2 * j]'(by rw [(plK_len ks ds t).1]; omega)) ((plK ks ds t).1[2 * j + 1]'(by rw [(plK_len ks ds t).1]; omega)))) := by
  have hl := (plK_len ks ds t).1
  simp only [plK, hj]
  rw [List.getElem?_eq_getElem (by omega), List.getElem?_eq_getElem (by omega), Option.getD_some, Option.getD_some]
end Go.Proofs.Ytmeaipickolhfaa
