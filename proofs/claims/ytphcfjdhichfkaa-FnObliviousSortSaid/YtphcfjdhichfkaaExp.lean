/- Oblivious expansion. -/
import Derived.Test.YtphcfjdhichfkaaObl
import Derived.BigQuiet
import Derived.Deep.QuietTactic
namespace Go.Proofs.Ytphcfjdhichfkaa
open Go.RowKit
set_option linter.unusedVariables false
/-- target i is in its bounds and above the one before -/
def tgAt (ts : List Int) (n : Int) (i : Nat) : Bool := inB (ts[i]?.getD 0) 0 (n - 1) && (decide (i = 0) || decide ((ts[i - 1]?.getD 0) < (ts[i]?.getD 0)))
def tgOk (ts : List Int) (n : Int) : Bool := (List.range ts.length).all (tgAt ts n)
theorem range_all_succ {p : Nat → Bool} {k : Nat} (h : (List.range k).all p = true) (hp : p k = true) : (List.range (k + 1)).all p = true := by
  rw [List.range_succ, List.all_append, h]; simp [hp]
theorem range_all_hit {p : Nat → Bool} {n k : Nat} (hk : k < n) (hp : p k = false) : (List.range n).all p = false := by
  rw [List.all_eq_false]; exact ⟨k, List.mem_range.2 hk, by simp [hp]⟩
theorem tgAt_get {ts : List Int} {n : Int} {j : Nat} (h : j + 1 < ts.length) : tgAt ts n (j + 1) = (inB ts[j + 1] 0 (n - 1) && decide (ts[j] < ts[j + 1])) := by
  simp [tgAt, h, show j < ts.length from by omega]
theorem tgAt_zero {ts : List Int} {n : Int} (h : 0 < ts.length) : tgAt ts n 0 = inB ts[0] 0 (n - 1) := by simp [tgAt, h]
theorem add_zero_ (a : Addr) : a.add 0 = a := by simp [Addr.add]
theorem add_succ_ (a : Addr) (j : Nat) : a.add (j + 1) = ⟨a.block, a.off + (j + 1), none⟩ := by simp [Addr.add]
set_option maxHeartbeats 800000 in
theorem areTargets_any (A : Option Addr) (ts : List Int) (c : Nat) (n : Int) (w : World) (hx : Reads w w.heap.size 1 A ts.length (ints ts)) (hl : ts.length ≤ 1099511627776) (h0 : 0 ≤ n) (h1 : n ≤ 64) :
    Calls Try.prog 41 #[.slice A ts.length c, .int .i64 n] w fun e w' => e = .returned (.bool (tgOk ts n)) ∧ w' = w := by
  go_enter Try.func41, Try.ntmps41
  go_wp2_with fail
  go_loop [9] (fun i => ∃ k : Nat, k ≤ ts.length ∧ i = .int .i64 k ∧ (List.range k).all (tgAt ts n) = true) (fun i => ts.length - (intOf i).toNat)
  case atStart => exact ⟨0, by omega, rfl, by simp⟩
  case round =>
    obtain ⟨k, hk, rfl, hall⟩ := hrel
    have HA := Lib.hid hall; clear hall
    by_cases hlt : k < ts.length
    · obtain ⟨ad, rfl, -, hc⟩ := hx.int hlt
      cases hin : inB ts[k] 0 (n - 1)
      · have hf : tgAt ts n k = false := by simp [tgAt, hlt, hin]
        have HF := Lib.hid hf; clear hf
        go_wp2_with (go_at_call 40; refine (in_any _ _ _ _).mono ?_; rintro e w' ⟨rfl, rfl⟩)
        go_ret
        exact ⟨retb (range_all_hit hlt HF.out).symm, rfl⟩
      · cases k with
        | zero =>
          simp only [add_zero_] at hc
          have hf : tgAt ts n 0 = true := by rw [tgAt_zero hlt, hin]
          have HF := Lib.hid hf; clear hf
          go_wp2_with (go_at_call 40; refine (in_any _ _ _ _).mono ?_; rintro e w' ⟨rfl, rfl⟩)
          go_round
          case rel => exact ⟨1, by omega, by go_num, by simpa using HF.out⟩
          case measure => simp [intOf]; omega
        | succ j =>
          obtain ⟨ad', ha, -, hc'⟩ := hx.int (k := j) (by omega)
          cases ha
          have ej : ((j + 1 : Nat) : Int) - 1 = j := by omega
          have hc2 := hc
          rw [add_succ_] at hc2
          have hpos : (0 : Int) < ((j + 1 : Nat) : Int) := by omega
          have hjl : ((j : Nat) : Int) < ts.length := by omega
          by_cases hv : ts[j + 1] ≤ ts[j]
          · have hf : tgAt ts n (j + 1) = false := by rw [tgAt_get hlt]; simp; intro _; omega
            have HF := Lib.hid hf; clear hf
            go_wp2_with (go_at_call 40; refine (in_any _ _ _ _).mono ?_; rintro e w' ⟨rfl, rfl⟩)
            go_ret
            exact ⟨retb (range_all_hit hlt HF.out).symm, rfl⟩
          · have hf : tgAt ts n (j + 1) = true := by rw [tgAt_get hlt, hin]; simp; omega
            have HF := Lib.hid hf; clear hf
            go_wp2_with (go_at_call 40; refine (in_any _ _ _ _).mono ?_; rintro e w' ⟨rfl, rfl⟩)
            go_round
            case rel => exact ⟨j + 2, by omega, by go_num, range_all_succ HA.out HF.out⟩
            case measure => simp [intOf]; omega
    · go_wp2_with fail
      go_ret
      have hk' : k = ts.length := by omega
      exact ⟨retb (by rw [tgOk, ← hk', HA.out]), rfl⟩
theorem grown_drew {w w' : World} {row : Option Nat} (h : w.grownBy w' row) : w.grownBy w'.drew row := ⟨h.os, h.tape, h.output, h.size, h.block⟩
theorem rev_swap {α : Type} {l xs : List α} {k : Nat} (hk : k < l.length - 1 - k) (hl : xs.length = l.length)
    (h : ∀ t, xs[t]? = if t < k ∨ (l.length - 1 - k < t ∧ t < l.length) then l.reverse[t]? else l[t]?) (h1 : k < xs.length) (h2 : l.length - 1 - k < xs.length) :
    ∀ t, ((xs.set k xs[l.length - 1 - k]).set (l.length - 1 - k) xs[k])[t]? = if t < k + 1 ∨ (l.length - 1 - (k + 1) < t ∧ t < l.length) then l.reverse[t]? else l[t]? := by
  intro t
  have e1 := h k
  have e2 := h (l.length - 1 - k)
  rw [List.getElem?_eq_getElem h1, if_neg (by omega), List.getElem?_eq_getElem (by omega)] at e1
  rw [List.getElem?_eq_getElem h2, if_neg (by omega), List.getElem?_eq_getElem (by omega)] at e2
  simp only [Option.some.injEq] at e1 e2
  rw [List.getElem?_set, List.getElem?_set]
  by_cases ht2 : l.length - 1 - k = t
  · subst ht2
    rw [if_pos rfl, if_pos (by simp; omega), if_pos (by omega), List.getElem?_reverse (by omega), e1, List.getElem?_eq_getElem (by omega)]
    congr 2
    omega
  · rw [if_neg ht2]
    by_cases ht1 : k = t
    · subst ht1
      rw [if_pos rfl, if_pos h1, if_pos (by omega), List.getElem?_reverse (by omega), e2, List.getElem?_eq_getElem (by omega)]
    · rw [if_neg ht1, h t]
      by_cases hc : t < k ∨ (l.length - 1 - k < t ∧ t < l.length)
      · rw [if_pos hc, if_pos (by omega)]
      · rw [if_neg hc]
        by_cases hd : t < l.length
        · rw [if_neg (by omega)]
        · rw [if_neg (by omega)]
theorem rev_done {α : Type} {l xs : List α} {k : Nat} (hk : l.length - 1 - k ≤ k) (hk2 : k ≤ l.length) (hl : xs.length = l.length)
    (h : ∀ t, xs[t]? = if t < k ∨ (l.length - 1 - k < t ∧ t < l.length) then l.reverse[t]? else l[t]?) : xs = l.reverse := by
  apply List.ext_getElem?
  intro t
  rw [h t]
  split
  · rfl
  · rename_i hc
    by_cases ht : t < l.length
    · rw [List.getElem?_reverse ht]
      congr 1
      omega
    · rw [List.getElem?_eq_none (by omega), List.getElem?_eq_none (by simp; omega)]
theorem cmps_set_ (xs : List (Int × Int)) : ∀ (k : Nat) (a b : Int), ((cmps xs).set (k * 2) (.int .i64 a)).set (k * 2 + 1) (.int .i64 b) = cmps (xs.set k (a, b)) := by
  induction xs with
  | nil => intro k a b; simp
  | cons c xs ih =>
    intro k a b
    cases k with
    | zero => simp
    | succ k =>
      rw [show (k + 1) * 2 = k * 2 + 1 + 1 from by omega]
      simp only [cmps_cons, List.set_cons_succ]
      rw [ih]
set_option maxRecDepth 100000 in
set_option maxHeartbeats 1600000 in
theorem reverseCmps_any (B : Nat) (A : Option Addr) (cs : List (Int × Int)) (c : Nat) (w : World) (hl : cs.length ≤ 1048576)
    (hown : w.ownsRow B 37 2 (.slice A cs.length c) cs.length (cmps cs)) :
    Calls Try.prog 42 #[.slice A cs.length c] w fun e w' => e = .returned (.tuple #[]) ∧
      w'.ownsRow B 37 2 (.slice A cs.length c) cs.length (cmps cs.reverse) ∧ w.grownBy w' (Value.slice A cs.length c).ownBlock := by
  go_enter Try.func42, Try.ntmps42
  go_wp2_with fail
  go_loopw [2, 3] (fun i j wr => ∃ (k : Nat) (xs : List (Int × Int)), 2 * k ≤ cs.length + 1 ∧ i = .int .i64 k ∧ j = .int .i64 ((cs.length : Int) - 1 - k) ∧ xs.length = cs.length ∧
      (∀ t, xs[t]? = if t < k ∨ (cs.length - 1 - k < t ∧ t < cs.length) then cs.reverse[t]? else cs[t]?) ∧
      wr.ownsRow B 37 2 (.slice A cs.length c) cs.length (cmps xs) ∧ w.grownBy wr (Value.slice A cs.length c).ownBlock) (fun i _ _ => cs.length - (intOf i).toNat)
  case atStart => exact ⟨0, cs, by omega, rfl, by simp, rfl, fun t => by rw [if_neg (by omega)], hown, World.grownBy.refl _ _⟩
  case round =>
    clear hown
    obtain ⟨k, xs, hk, rfl, rfl, hlx, hpre, hown, hg⟩ := hrel
    have HX := Lib.hid hlx
    have HP := Lib.hid hpre; clear hpre
    by_cases hlt : k < cs.length - 1 - k
    · obtain ⟨g, rfl, hBg, hgl⟩ := own_at hown (by omega)
      obtain ⟨j, hj⟩ : ∃ j, j = cs.length - 1 - k := ⟨_, rfl⟩
      have hji : (cs.length : Int) - 1 - k = j := by omega
      have hkx : k < xs.length := by omega
      have hjx : j < xs.length := by omega
      have hkj : k ≠ j := by omega
      have hlt' : (k : Int) < j := by omega
      rw [← hj] at hlt
      rw [hji]
      have HJ := Lib.hid hj; clear hj
      have HJI := Lib.hid hji; clear hji
      have c1 := hown.cellAt (k * 2) (by omega)
      rw [(cmps_get hkx).1] at c1
      have c2 := hown.cellAt (k * 2 + 1) (by omega)
      rw [(cmps_get hkx).2] at c2
      have c3 := hown.cellAt (j * 2) (by omega)
      rw [(cmps_get hjx).1] at c3
      have c4 := hown.cellAt (j * 2 + 1) (by omega)
      rw [(cmps_get hjx).2] at c4
      have f1 := hown.frozenAt (k * 2)
      have f2 := hown.frozenAt (k * 2 + 1)
      have f3 := hown.frozenAt (j * 2)
      have f4 := hown.frozenAt (j * 2 + 1)
      have G := Lib.hid hg; clear hg
      have jl : (j : Int) < cs.length := by omega
      have kl : (k : Int) < cs.length := by omega
      clear hlx
      go_wp2_with fail
      go_region
      go_wp2_with fail
      go_roundw
      case rel =>
        have hx2 := rev_swap (by have := HJ.out; omega) HX.out HP.out hkx (by have := HJ.out; omega)
        have ej : cs.length - 1 - k = j := HJ.out.symm
        have s1 := hown.stored (k * 2) (.int .i64 xs[j].1)
        have s2 := s1.1.stored (k * 2 + 1) (.int .i64 xs[j].2)
        rw [cmps_set_] at s2
        have s3 := s2.1.stored (j * 2) (.int .i64 xs[k].1)
        have s4 := s3.1.stored (j * 2 + 1) (.int .i64 xs[k].2)
        rw [cmps_set_] at s4
        refine ⟨k + 1, (xs.set k xs[j]).set j xs[k], by omega, by go_num, by have := HJI.out; go_num, by simp [HX.out], ?_, by exact s4.1, grown_drew ((((G.out.trans s1.2).trans s2.2).trans s3.2).trans s4.2)⟩
        simp only [ej] at hx2
        exact hx2
      case measure => simp [intOf]; omega
    · have hlt2 : ¬ ((k : Int) < (cs.length : Int) - 1 - k) := by omega
      go_wp2_with fail
      refine bodyPost_end (results_none rfl _ _ _) rfl ⟨rfl, ?_, hg⟩
      rw [← rev_done (by omega) (by omega) HX.out HP.out]
      exact hown
end Go.Proofs.Ytphcfjdhichfkaa
