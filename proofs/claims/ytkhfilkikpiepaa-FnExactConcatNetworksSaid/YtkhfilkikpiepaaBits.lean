/- Binary inputs as lists and as numbers; a comparator at work on either. Plain. -/
import Derived.Test.YtkhfilkikpiepaaRun
import Derived.Laws.BitsLemmas
import Derived.Laws.Entries
namespace Go.Proofs.Ytkhfilkikpiepaa
open Go.RowKit
set_option linter.unusedVariables false
/-- bit i of a number -/
def bitI (m i : Nat) : Int := if m.testBit i then 1 else 0
theorem bitI_01 (m i : Nat) : bitI m i = 0 ∨ bitI m i = 1 := by unfold bitI; split <;> simp
theorem bitI_lt (m a b : Nat) : bitI m b < bitI m a ↔ (m.testBit a = true ∧ m.testBit b = false) := by
  unfold bitI; cases m.testBit a <;> cases m.testBit b <;> simp
/-- a number's bits as a list -/
def binL (m W : Nat) : List Int := (List.range W).map (bitI m)
@[simp] theorem binL_len (m W : Nat) : (binL m W).length = W := by simp [binL]
theorem binL_get {m W i : Nat} (h : i < (binL m W).length) : (binL m W)[i] = bitI m i := by simp [binL]
theorem binL_at {m W i : Nat} (h : i < W) : (binL m W)[i]? = some (bitI m i) := by simp [binL, h]
theorem binL_succ (m W : Nat) : binL m (W + 1) = binL m W ++ [bitI m W] := by simp [binL, List.range_succ]
/-- one comparator at work on a number -/
def stepN (m a b : Nat) : Nat := if m.testBit a && !m.testBit b then m ^^^ 2 ^ a ^^^ 2 ^ b else m
theorem bitI_congr {m n i j : Nat} (h : m.testBit i = n.testBit j) : bitI m i = bitI n j := by unfold bitI; rw [h]
theorem stepN_bin (m a b W : Nat) (ha : a < W) (hb : b < W) (hab : a ≠ b) : binL (stepN m a b) W = cmpDo (binL m W) ((a : Int), (b : Int)) := by
  unfold cmpDo stepN
  simp only [Int.toNat_natCast, binL_at ha, binL_at hb, Option.getD_some]
  by_cases h : m.testBit a = true ∧ m.testBit b = false
  · rw [if_pos ((bitI_lt m a b).2 h), if_pos (by simp [h])]
    apply List.ext_getElem
    · simp
    · intro i h1 h2
      rw [List.getElem_set, List.getElem_set, binL_get, binL_get]
      by_cases hib : b = i
      · subst hib
        rw [if_pos rfl]
        apply bitI_congr
        simp [Nat.testBit_xor, h, hab]
      · rw [if_neg hib]
        by_cases hia : a = i
        · subst hia
          rw [if_pos rfl]
          apply bitI_congr
          simp [Nat.testBit_xor, h, Ne.symm hab]
        · rw [if_neg hia]
          apply bitI_congr
          simp [Nat.testBit_xor, hia, hib]
  · rw [if_neg (fun e => h ((bitI_lt m a b).1 e)), if_neg (by simpa using h)]
theorem stepN_lt {m a b W : Nat} (hm : m < 2 ^ W) (ha : a < W) (hb : b < W) : stepN m a b < 2 ^ W := by
  unfold stepN
  split
  · exact Nat.xor_lt_two_pow (Nat.xor_lt_two_pow hm (Nat.pow_lt_pow_right (by omega) ha)) (Nat.pow_lt_pow_right (by omega) hb)
  · exact hm
/-- a network at work on a number -/
def netN (cs : List (Int × Int)) (m : Nat) : Nat := cs.foldl (fun m c => stepN m c.1.toNat c.2.toNat) m
theorem netN_take (cs : List (Int × Int)) (m k : Nat) (hk : k < cs.length) : netN (cs.take (k + 1)) m = stepN (netN (cs.take k) m) cs[k].1.toNat cs[k].2.toNat := by
  rw [netN, netN, List.take_succ_eq_append_getElem hk, List.foldl_append]; rfl
theorem netN_bin (W : Nat) (cs : List (Int × Int)) : ∀ m : Nat, (∀ c ∈ cs, cmpOk W c = true) → binL (netN cs m) W = netRun cs (binL m W) := by
  induction cs with
  | nil => intro m _; rfl
  | cons c cs ih =>
    intro m h
    obtain ⟨h1, h2, h3, h4, h5⟩ := cmpOk_iff' (h c (by simp))
    have e : c = ((c.1.toNat : Int), (c.2.toNat : Int)) := by ext <;> simp <;> omega
    rw [netN, List.foldl_cons, netRun, List.foldl_cons]
    rw [show cmpDo (binL m W) c = binL (stepN m c.1.toNat c.2.toNat) W from by rw [stepN_bin _ _ _ _ (by omega) (by omega) (by omega), ← e]]
    exact ih _ fun d hd => h d (by simp [hd])
theorem netN_lt {W : Nat} {cs : List (Int × Int)} : ∀ {m : Nat}, m < 2 ^ W → (∀ c ∈ cs, cmpOk W c = true) → netN cs m < 2 ^ W := by
  induction cs with
  | nil => intro m hm _; exact hm
  | cons c cs ih =>
    intro m hm h
    obtain ⟨h1, h2, h3, h4, h5⟩ := cmpOk_iff' (h c (by simp))
    exact ih (stepN_lt hm (by omega) (by omega)) fun d hd => h d (by simp [hd])
/-- the first descent of a list -/
def desc (l : List Int) : Int := idx (fun i => decide ((l[i + 1]?.getD 0) < (l[i]?.getD 0))) (List.range (l.length - 1))
def ascB (l : List Int) : Bool := (List.range (l.length - 1)).all fun i => decide ((l[i]?.getD 0) ≤ (l[i + 1]?.getD 0))
theorem desc_neg (l : List Int) : decide (desc l < 0) = ascB l := by
  unfold desc ascB idx
  rw [Bool.eq_iff_iff]
  split <;> rename_i h
  · simp only [decide_eq_true_eq, List.all_eq_true]
    obtain ⟨x, hx, hp⟩ := List.any_eq_true.1 h
    constructor
    · intro h0; omega
    · intro ha
      have := ha x hx
      simp at hp this; omega
  · have h' : (List.range (l.length - 1)).any (fun i => decide ((l[i + 1]?.getD 0) < (l[i]?.getD 0))) = false := by simpa using h
    rw [List.any_eq_false] at h'
    simp only [decide_eq_true_eq, List.all_eq_true]
    constructor
    · intro _ i hi
      have := h' i hi
      simp at this ⊢; omega
    · intro _; decide
/-- the bits ascend -/
def ascN (m W : Nat) : Bool := (List.range (W - 1)).all fun i => !(m.testBit i && !m.testBit (i + 1))
theorem ascN_bin (m W : Nat) : ascB (binL m W) = ascN m W := by
  unfold ascB ascN
  rw [binL_len]
  rw [Bool.eq_iff_iff, List.all_eq_true, List.all_eq_true]
  refine forall_congr' fun i => imp_congr_right fun hi => ?_
  rw [← Bool.eq_iff_iff]
  have hi' : i + 1 < W := by have := List.mem_range.1 hi; omega
  rw [binL_at hi', binL_at (show i < W by omega), Option.getD_some, Option.getD_some, Bool.eq_iff_iff]
  have := bitI_lt m i (i + 1)
  simp only [decide_eq_true_eq, Bool.not_eq_true', Bool.and_eq_false_iff, Bool.not_eq_false']
  constructor
  · intro h
    cases ha : m.testBit i
    · exact .inl rfl
    · cases hb : m.testBit (i + 1)
      · have := this.2 ⟨ha, hb⟩; omega
      · exact .inr rfl
  · intro h
    rcases Int.lt_or_le (bitI m (i + 1)) (bitI m i) with hlt | hge
    · obtain ⟨h1, h2⟩ := this.1 hlt
      rw [h1, h2] at h
      simp at h
    · exact hge
/-- the first input that a network does not sort -/
def fuP (W : Nat) (cs : List (Int × Int)) (m : Nat) : Bool := !ascB (netRun cs (binL m W))
theorem fuP_N (W : Nat) (cs : List (Int × Int)) (h : ∀ c ∈ cs, cmpOk W c = true) (m : Nat) : fuP W cs m = !ascN (netN cs m) W := by
  unfold fuP; rw [← netN_bin W cs m h, ascN_bin]
def fuL (W : Nat) (cs : List (Int × Int)) : Int := idx (fuP W cs) (List.range (2 ^ W))
def chkOk (W : Int) (cs : List (Int × Int)) : Bool := netOk W cs && decide (W ≤ 12)
def fuOk (W : Int) (cs : List (Int × Int)) : Bool := chkOk W cs
def fuV (W : Int) (cs : List (Int × Int)) : Int := if chkOk W cs then fuL W.toNat cs else 0
/-- bit operations on small numbers -/
theorem i64_nat (a b : Nat) (ha : a < 4611686018427387904) (hb : b < 4611686018427387904) : bits .and .i64 a b = ((a &&& b : Nat) : Int) ∧ bits .or .i64 a b = ((a ||| b : Nat) : Int) :=
  bits_nat .i64 62 (by decide) (fun n h0 h1 => by rw [IntKind.wrap_i64]; omega) a b ha hb
theorem i64_xor (a b : Nat) (ha : a < 4611686018427387904) (hb : b < 4611686018427387904) : bits .xor .i64 a b = ((a ^^^ b : Nat) : Int) := by
  have ha' : a % 2 ^ 64 = a := Nat.mod_eq_of_lt (by omega)
  have hb' : b % 2 ^ 64 = b := Nat.mod_eq_of_lt (by omega)
  have hx : a ^^^ b < 2 ^ 62 := Nat.xor_lt_two_pow (by omega) (by omega)
  show IntKind.i64.wrap ((BitVec.ofInt 64 (a : Int) ^^^ BitVec.ofInt 64 (b : Int)).toNat : Nat) = _
  simp only [BitVec.ofInt_natCast, BitVec.toNat_xor, BitVec.toNat_ofNat, ha', hb']
  rw [IntKind.wrap_i64]
  omega
theorem and1_bit (m a : Nat) (hm : m < 4611686018427387904) : bits .and .i64 ((m : Int) / 2 ^ a) 1 = bitI m a := by
  have e : ((m : Int) / 2 ^ a) = ((m / 2 ^ a : Nat) : Int) := by simp
  have h : m / 2 ^ a ≤ m := Nat.div_le_self _ _
  rw [e]
  have := (i64_nat (m / 2 ^ a) 1 (by omega) (by omega)).1
  rw [show ((1 : Nat) : Int) = 1 from rfl] at this
  rw [this, Nat.and_one_is_mod, bitI, Nat.testBit_eq_decide_div_mod_eq]
  have := Nat.mod_two_eq_zero_or_one (m / 2 ^ a)
  rcases this with h0 | h1 <;> simp [*]
theorem wrap_pow (a : Nat) (ha : a < 62) : wrap64 (2 ^ a) = ((2 ^ a : Nat) : Int) := by
  have h : 2 ^ a < 2 ^ 62 := Nat.pow_lt_pow_right (by omega) ha
  have e : ((2 : Int) ^ a) = ((2 ^ a : Nat) : Int) := by simp
  rw [e]
  clear e
  unfold wrap64
  generalize 2 ^ a = n at h ⊢
  omega
theorem xor2_bit (m a b : Nat) (hm : m < 4096) (ha : a < 12) (hb : b < 12) : bits .xor .i64 (bits .xor .i64 m (wrap64 (2 ^ a))) (wrap64 (2 ^ b)) = ((m ^^^ 2 ^ a ^^^ 2 ^ b : Nat) : Int) := by
  have h1 : 2 ^ a < 2 ^ 12 := Nat.pow_lt_pow_right (by omega) ha
  have h2 : 2 ^ b < 2 ^ 12 := Nat.pow_lt_pow_right (by omega) hb
  have h3 : m ^^^ 2 ^ a < 2 ^ 12 := Nat.xor_lt_two_pow (by omega) (by omega)
  rw [wrap_pow a (by omega), wrap_pow b (by omega), i64_xor _ _ (by omega) (by omega), i64_xor _ _ (by omega) (by omega)]
theorem addr_succ (a : Addr) (j : Nat) : a.add (j + 1) = ⟨a.block, a.off + (j + 1), none⟩ := by simp [Addr.add]
theorem ret_ib {a b : Int} {x y : Bool} (h : a = b) (h' : x = y) : Ending.returned (.tuple #[.int .i64 a, .bool x]) = .returned (.tuple #[.int .i64 b, .bool y]) := by rw [h, h']
theorem bthen' {B : Nat} {w w1 w2 : World} (h : Below B w w1) (k : Below w1.heap.size w1 w2) (hB : B ≤ w.heap.size := by first | exact Nat.le_refl _ | omega) : Below B w w2 := h.trans (k.mono (Nat.le_trans hB h.size))
theorem chk_parts {W : Int} {cs : List (Int × Int)} (h : chkOk W cs = true) : ∃ n : Nat, W = n ∧ netOk n cs = true ∧ n ≤ 12 ∧ cs.length ≤ 200 := by
  have hck := h
  simp only [chkOk, Bool.and_eq_true, decide_eq_true_eq] at hck
  obtain ⟨hnet, hW12⟩ := hck
  have hnet' := hnet
  simp only [netOk, Bool.and_eq_true, decide_eq_true_eq] at hnet'
  have ⟨hw1, hw2⟩ := inB_iff.1 hnet'.1
  obtain ⟨n, rfl⟩ := Int.eq_ofNat_of_zero_le (show 0 ≤ W by omega)
  exact ⟨n, rfl, hnet, by omega, hnet'.2.1⟩
end Go.Proofs.Ytkhfilkikpiepaa
