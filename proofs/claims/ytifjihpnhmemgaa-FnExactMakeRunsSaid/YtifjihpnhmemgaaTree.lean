/- The loser tree: the plain part; one match; the matches of a tree (the program's side). -/
import Derived.Test.YtifjihpnhmemgaaHold
import Derived.Test.YtifjihpnhmemgaaPush
import Derived.IntWalk
import Derived.Deep.QuietTactic
import Derived.BigQuiet
namespace Go.Proofs.Ytifjihpnhmemgaa
open Go.RowKit
set_option linter.unusedVariables false
/-- leaf i beats leaf m -/
def beatsB (ks : List Int) (ds : List Bool) (i m : Nat) : Bool :=
  if (ds[i]?.getD false) = (ds[m]?.getD false) then
    (if (ks[i]?.getD 0) = (ks[m]?.getD 0) then decide (i < m) else decide ((ks[i]?.getD 0) < (ks[m]?.getD 0)))
  else ds[m]?.getD false
theorem beats_anti (ks : List Int) (ds : List Bool) (i m : Nat) (h : i ≠ m) : beatsB ks ds i m = !beatsB ks ds m i := by
  unfold beatsB
  by_cases h1 : (ds[i]?.getD false) = (ds[m]?.getD false)
  · rw [if_pos h1, if_pos h1.symm]
    by_cases h2 : (ks[i]?.getD 0) = (ks[m]?.getD 0)
    · rw [if_pos h2, if_pos h2.symm]
      rw [Bool.eq_iff_iff]; simp; omega
    · rw [if_neg h2, if_neg (fun e => h2 e.symm)]
      rw [Bool.eq_iff_iff]; simp; omega
  · rw [if_neg h1, if_neg (fun e => h1 e.symm)]
    cases h3 : ds[i]?.getD false <;> cases h4 : ds[m]?.getD false <;> simp_all
/-- the winner and the loser of a match -/
def winO (ks : List Int) (ds : List Bool) (a b : Nat) : Nat := if beatsB ks ds b a then b else a
def losO (ks : List Int) (ds : List Bool) (a b : Nat) : Nat := if beatsB ks ds b a then a else b
theorem win_spec (ks : List Int) (ds : List Bool) (a b : Nat) : (if beatsB ks ds a b then a else b) = winO ks ds a b ∧ (if beatsB ks ds a b then b else a) = losO ks ds a b := by
  unfold winO losO
  by_cases h : a = b
  · subst h; simp
  · rw [beats_anti ks ds a b h]
    cases beatsB ks ds b a <;> simp
/-- lists of leaves as cells -/
def nats (ns : List Nat) : List Value := ints (ns.map Int.ofNat)
@[simp] theorem nats_length (ns : List Nat) : (nats ns).length = ns.length := by simp [nats]
theorem nats_get {ns : List Nat} {k : Nat} (h : k < ns.length) : (nats ns)[k]? = some (.int .i64 (ns[k] : Nat)) := by simp [nats, ints, h]
theorem nats_set (ns : List Nat) (k z : Nat) : (nats ns).set k (.int .i64 (z : Nat)) = nats (ns.set k z) := by simp [nats, ints, List.map_set]
/-- the tree behind t matches: the winners of all nodes, the losers of the inner nodes -/
def plK (ks : List Int) (ds : List Bool) : Nat → List Nat × List Nat
  | 0 => (List.replicate ks.length 0 ++ List.range ks.length, List.replicate ks.length 0)
  | t + 1 =>
    let s := plK ks ds t
    let j := ks.length - 1 - t
    let a := s.1[2 * j]?.getD 0
    let b := s.1[2 * j + 1]?.getD 0
    (s.1.set j (winO ks ds a b), s.2.set j (losO ks ds a b))
theorem plK_len (ks : List Int) (ds : List Bool) : ∀ t, (plK ks ds t).1.length = 2 * ks.length ∧ (plK ks ds t).2.length = ks.length
  | 0 => by simp [plK]; omega
  | t + 1 => by have := plK_len ks ds t; simp [plK, this]
theorem winO_lt {ks : List Int} {ds : List Bool} {a b k : Nat} (ha : a < k) (hb : b < k) : winO ks ds a b < k ∧ losO ks ds a b < k := by
  unfold winO losO; cases beatsB ks ds b a <;> simp [ha, hb]
theorem plK_lt {ks : List Int} {ds : List Bool} (h0 : 0 < ks.length) : ∀ (t : Nat) (x : Nat), (plK ks ds t).1[x]?.getD 0 < ks.length
  | 0, x => by
    simp only [plK, List.getElem?_append, List.length_replicate]
    split
    · rw [List.getElem?_replicate]; split <;> simp <;> omega
    · rcases Nat.lt_or_ge (x - ks.length) ks.length with h | h
      · rw [List.getElem?_range h]; simp; omega
      · rw [List.getElem?_eq_none (by simpa using h)]; simpa using h0
  | t + 1, x => by
    have ih := plK_lt (ds := ds) h0 t
    simp only [plK, List.getElem?_set]
    split
    · split
      · exact (winO_lt (ih _) (ih _)).1
      · simpa using h0
    · exact ih x
def loserV (ks : List Int) (ds : List Bool) : List Nat := (plK ks ds (ks.length - 1)).2
def winnerV (ks : List Int) (ds : List Bool) : Nat := (plK ks ds (ks.length - 1)).1[1]?.getD 0
theorem loser_len (ks : List Int) (ds : List Bool) : (loserV ks ds).length = ks.length := (plK_len ks ds _).2
theorem plK_succ {ks : List Int} {ds : List Bool} {t j : Nat} (hj : ks.length - 1 - t = j) (ha : 2 * j + 1 < 2 * ks.length) :
    plK ks ds (t + 1) = ((plK ks ds t).1.set j (winO ks ds ((plK ks ds t).1[2 * j]'(by rw [(plK_len ks ds t).1]; omega)) ((plK ks ds t).1[2 * j + 1]'(by rw [(plK_len ks ds t).1]; omega))),
      (plK ks ds t).2.set j (losO ks ds ((plK ks ds t).1[2 * j]'(by rw [(plK_len ks ds t).1]; omega)) ((plK ks ds t).1[2 * j + 1]'(by rw [(plK_len ks ds t).1]; omega)))) := by
  have hl := (plK_len ks ds t).1
  simp only [plK, hj]
  rw [List.getElem?_eq_getElem (by omega), List.getElem?_eq_getElem (by omega), Option.getD_some, Option.getD_some]
set_option maxRecDepth 100000 in
set_option maxHeartbeats 3200000 in
theorem beats_any (p : Nat) (AK AD : Option Addr) (ks : List Int) (ds : List Bool) (k cK cD : Nat) (VL VW : Value) (i m : Nat) (w : World) (hblk : Blk w p 54 #[.slice AK k cK, .slice AD k cD, VL, VW])
    (hk : ks.length = k) (hd : ds.length = k) (hK : Reads w w.heap.size 1 AK ks.length (ints ks)) (hD : Reads w w.heap.size 1 AD ds.length (bools ds)) (hi : i < k) (hm : m < k) (hk20 : k ≤ 1048576) :
    Calls Try.prog 55 #[.pointer (some ⟨p, 0, none⟩), .int .i64 i, .int .i64 m] w fun e w' => e = .returned (.bool (beatsB ks ds i m)) ∧ ∃ n, w' = w.drewN n := by
  have c0 : w.cell? ⟨p, 0, none⟩ = some (.slice AK k cK) := hblk.cell 0
  have c1 : w.cell? ⟨p, 1, none⟩ = some (.slice AD k cD) := hblk.cell 1
  obtain ⟨ak, rfl, -, k1⟩ := hK.int (k := i) (by omega)
  obtain ⟨bk, hbk, -, k2⟩ := hK.int (k := m) (by omega)
  cases hbk
  obtain ⟨ad, rfl, -, d1⟩ := hD.tv (k := i) (by omega)
  obtain ⟨bd, hbd, -, d2⟩ := hD.tv (k := m) (by omega)
  cases hbd
  have hpl := hblk.lt
  have HB := Lib.hid (show beatsB ks ds i m = if ds[i] = ds[m] then (if ks[i] = ks[m] then decide (i < m) else decide (ks[i] < ks[m])) else ds[m] by
    unfold beatsB
    rw [List.getElem?_eq_getElem (by omega), List.getElem?_eq_getElem (show m < ds.length by omega), List.getElem?_eq_getElem (show i < ks.length by omega), List.getElem?_eq_getElem (show m < ks.length by omega)]
    rfl)
  clear hK hD hblk
  generalize ks[i] = a at *
  generalize ks[m] = b at *
  generalize ds[i] = x at *
  generalize ds[m] = y at *
  have ik : (i : Int) < k := by omega
  have mk : (m : Int) < k := by omega
  clear hk hd
  cases x <;> cases y
  case false.true =>
    go_enter Try.func55, Try.ntmps55
    go_wp2_with fail
    go_quiet (fail)
    go_wp2_with fail
    go_ret
    exact ⟨retb (by rw [HB.out]; rfl), _, rfl⟩
  case true.false =>
    go_enter Try.func55, Try.ntmps55
    go_wp2_with fail
    go_quiet (fail)
    go_wp2_with fail
    go_ret
    exact ⟨retb (by rw [HB.out]; rfl), _, rfl⟩
  all_goals
    rcases Int.lt_trichotomy a b with hab | hab | hab
    · have e1 : decide (a < b) = true := by simpa using hab
      have HBT := Lib.hid (show beatsB ks ds i m = true by rw [HB.out, if_pos rfl, if_neg (by omega), e1])
      go_enter Try.func55, Try.ntmps55
      go_wp2_with fail
      go_quiet (fail)
      go_wp2_with fail
      go_quiet (fail)
      go_wp2_with fail
      go_ret
      exact ⟨retb HBT.out.symm, _, by rw [World.drewN_drewN]⟩
    · subst hab
      have e1 : decide (a < a) = false := by simp
      have e2 : (a == a) = true := by simp
      have HBT := Lib.hid (show beatsB ks ds i m = decide (i < m) by rw [HB.out, if_pos rfl, if_pos rfl])
      go_enter Try.func55, Try.ntmps55
      go_wp2_with fail
      go_quiet (fail)
      go_wp2_with fail
      go_quiet (fail)
      go_wp2_with fail
      go_ret
      exact ⟨retb HBT.out.symm, _, by rw [World.drewN_drewN]⟩
    · have e1 : decide (a < b) = false := decide_eq_false (by omega)
      have e2 : (a == b) = false := by rw [beq_eq_false_iff_ne]; omega
      have HBT := Lib.hid (show beatsB ks ds i m = false by rw [HB.out, if_pos rfl, if_neg (by omega), e1])
      go_enter Try.func55, Try.ntmps55
      go_wp2_with fail
      go_quiet (fail)
      go_wp2_with fail
      go_quiet (fail)
      go_wp2_with fail
      go_ret
      exact ⟨retb HBT.out.symm, _, by rw [World.drewN_drewN]⟩
end Go.Proofs.Ytifjihpnhmemgaa
