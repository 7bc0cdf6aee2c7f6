/- The helpers of the laws: lists out of a code, and the comparing of lists. -/
import Derived.Test.YtkhfilkikpiepaaDrawI
import Derived.Test.YtkhfilkikpiepaaSort
namespace Go.Proofs.Ytkhfilkikpiepaa
open Go.RowKit
set_option linter.unusedVariables false
theorem cur_box {w : World} {A : Option Addr} {bs : List Nat} {c : Nat} (hr : Reads w w.heap.size 1 A bs.length (byts bs)) (hb : ∀ b ∈ bs, b ≤ 255) (hl : bs.length ≤ 65536) :
    Cur (w.alloc (.cells #[.slice A bs.length c, .int .i64 0, .int .u64 0] 60)) w.heap.size A bs c 0 :=
  ⟨⟨0, 0, Blk.new _ _ _, Nat.le_refl _, by omega, by omega⟩, hr.alloc (Nat.le_refl _) _, hb, hl⟩
/-- a call has returned a list of integers of its own -/
def GotL (tI : TypeId) (w : World) (p : List Int → Prop) (e : Ending) (w' : World) : Prop := ∃ v zs, e = .returned v ∧ w'.ownsRow w.heap.size tI 1 v zs.length (ints zs) ∧ p zs ∧ Below w.heap.size w w'
theorem GotL.mk {tI : TypeId} {w : World} {p : List Int → Prop} {e : Ending} {w' : World} (h : ∃ v zs, e = .returned v ∧ w'.ownsRow w.heap.size tI 1 v zs.length (ints zs) ∧ p zs ∧ Below w.heap.size w w') : GotL tI w p e w' := h
set_option maxHeartbeats 400000 in
theorem vInts_any (A B : Option Addr) (xs ys : List Int) (c d : Nat) (w : World) (hx : Reads w w.heap.size 1 A xs.length (ints xs)) (hy : Reads w w.heap.size 1 B ys.length (ints ys))
    (hl : xs.length ≤ 1099511627776) (hl' : ys.length ≤ 1099511627776) :
    Calls Try.prog 17 #[.slice A xs.length c, .slice B ys.length d] w fun e w' => e = .returned (.bool (decide (xs = ys))) ∧ ∃ n, w' = w.drewN n := by
  by_cases hne : xs.length = ys.length
  case neg =>
    have hd : ((xs.length : Int) == (ys.length : Int)) = false := by simp; omega
    have hd' : ((xs.length : Int) != (ys.length : Int)) = true := by simp; omega
    go_enter Try.func17, Try.ntmps17
    go_wp2_with fail
    go_ret
    exact ⟨retb (by symm; simp; intro h; exact hne (by rw [h])), 0, rfl⟩
  have hd : ((xs.length : Int) == (ys.length : Int)) = true := by simp; omega
  have hd' : ((xs.length : Int) != (ys.length : Int)) = false := by simp; omega
  have Hne := Lib.hid hne; clear hne
  go_enter Try.func17, Try.ntmps17
  go_wp2_with fail
  go_loopw [5] (fun i wr => ∃ k n : Nat, k ≤ xs.length ∧ i = .int .i64 k ∧ wr = w.drewN n ∧ xs.take k = ys.take k) (fun i _ => xs.length - (intOf i).toNat)
  case atStart => exact ⟨0, 0, by omega, rfl, rfl, by simp⟩
  case round =>
    obtain ⟨k, n, hk, rfl, rfl, heq⟩ := hrel
    have HE := Lib.hid heq; clear heq
    by_cases hlt : k < xs.length
    · have hlt' : k < ys.length := by have := Hne.out; omega
      obtain ⟨ad, rfl, -, hc⟩ := hx.int hlt
      obtain ⟨bd, rfl, -, hc'⟩ := hy.int hlt'
      go_wp2_with fail
      by_cases hv : xs[k] = ys[k]
      · have hb : (xs[k] != ys[k]) = false := by simpa using hv
        have hb' : (xs[k] == ys[k]) = true := by simpa using hv
        have HV := Lib.hid hv; clear hv
        go_quiet (fail)
        go_wp2_with fail
        go_roundw
        case rel => exact ⟨k + 1, n + nq, by omega, by go_num, rfl, take_succ_eq HE.out hlt hlt' HV.out⟩
        case measure => simp [intOf]; omega
      · have hb : (xs[k] != ys[k]) = true := by simpa using hv
        have hb' : (xs[k] == ys[k]) = false := by simpa using hv
        have HV := Lib.hid hv; clear hv
        go_quiet (fail)
        go_wp2_with fail
        go_ret
        exact ⟨retb (by symm; simp only [decide_eq_false_iff_not]; intro h; exact HV.out (by simp [h])), _, by rw [World.drewN_drewN]⟩
    · go_wp2_with fail
      go_ret
      refine ⟨retb (by symm; simp only [decide_eq_true_eq]; have h := HE.out; have hk' := Hne.out; rwa [List.take_of_length_le (by omega), List.take_of_length_le (by omega)] at h), n, rfl⟩

theorem vBig_any (A : Option Addr) (n c : Nat) (w : World) (hn : n ≤ maxLen) :
    Calls Try.prog 12 #[.slice A n c] w fun e w' => e = .returned (.bool (decide (65536 < n))) ∧ w = w' := by
  unfold maxLen at hn
  by_cases h : 65536 < n
  · have h2 : (65536 : Int) < n := by omega
    have HD := Lib.hid (show decide (65536 < n) = true by simpa using h)
    go_enter Try.func12, Try.ntmps12
    go_wp2
    go_ret
    exact ⟨retb HD.out.symm, rfl⟩
  · have h2 : ¬ (65536 : Int) < n := by omega
    have HD := Lib.hid (show decide (65536 < n) = false by simpa using h)
    go_enter Try.func12, Try.ntmps12
    go_wp2
    go_ret
    first | exact ⟨retb HD.out.symm, rfl⟩ | exact ⟨rfl, rfl⟩
def atV (bs : List Nat) (i : Nat) : Nat := if i < bs.length then bs[i]?.getD 0 else (i * 7 + bs.length) % 256
theorem atV_lt {bs : List Nat} (hb : ∀ b ∈ bs, b ≤ 255) (i : Nat) : atV bs i ≤ 255 := by
  unfold atV
  split
  · rename_i h
    rw [List.getElem?_eq_getElem h]
    exact hb _ (List.getElem_mem h)
  · omega
theorem vAt_any (A : Option Addr) (bs : List Nat) (c i : Nat) (w : World) (hr : Reads w w.heap.size 1 A bs.length (byts bs)) (hb : ∀ b ∈ bs, b ≤ 255) (hl : bs.length ≤ 65536) (hi : i ≤ 1048576) :
    Calls Try.prog 15 #[.slice A bs.length c, .int .i64 (i : Nat)] w fun e w' => e = .returned (.int .i64 (atV bs i : Nat)) ∧ w = w' := by
  by_cases h : i < bs.length
  · obtain ⟨ad, rfl, -, hc⟩ := hr.byte h
    have hx := hb _ (List.getElem_mem h)
    have HA := Lib.hid (show atV bs i = bs[i] by rw [atV, if_pos h, List.getElem?_eq_getElem h]; rfl)
    generalize bs[i] = x at *
    have i1 : (i : Int) < bs.length := by omega
    go_enter Try.func15, Try.ntmps15
    go_wp2_with fail
    go_ret
    exact ⟨by rw [HA.out]; rfl, rfl⟩
  · have i1 : ¬ (i : Int) < bs.length := by omega
    have HA := Lib.hid (show ((atV bs i : Nat) : Int) = ((i : Int) * 7 + bs.length) % 256 by rw [atV, if_neg h]; omega)
    go_enter Try.func15, Try.ntmps15
    go_wp2_with fail
    go_ret
    exact ⟨by rw [HA.out]; rfl, rfl⟩
end Go.Proofs.Ytkhfilkikpiepaa
