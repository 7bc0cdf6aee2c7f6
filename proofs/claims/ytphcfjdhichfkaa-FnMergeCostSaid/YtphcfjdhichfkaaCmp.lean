/- Contracts of the helpers on lists of comparators. -/
import Derived.Test.YtphcfjdhichfkaaCore
import Derived.StillTailTactics
import Derived.Deep.RegionHeld3
namespace Go.Proofs.Ytphcfjdhichfkaa
open Go.RowKit
set_option linter.unusedVariables false

/-- the cells of a list of comparators -/
def cmps (cs : List (Int × Int)) : List Value := cs.flatMap fun c => [.int .i64 c.1, .int .i64 c.2]
@[simp] theorem cmps_nil : cmps [] = [] := rfl
@[simp] theorem cmps_cons (c : Int × Int) (cs : List (Int × Int)) : cmps (c :: cs) = .int .i64 c.1 :: .int .i64 c.2 :: cmps cs := rfl
@[simp] theorem cmps_append (xs ys : List (Int × Int)) : cmps (xs ++ ys) = cmps xs ++ cmps ys := by simp [cmps]
@[simp] theorem cmps_length (cs : List (Int × Int)) : (cmps cs).length = cs.length * 2 := by
  induction cs with
  | nil => rfl
  | cons c cs ih => simp [ih]; omega
theorem cmps_get {cs : List (Int × Int)} {k : Nat} (h : k < cs.length) : (cmps cs)[k * 2]? = some (.int .i64 cs[k].1) ∧ (cmps cs)[k * 2 + 1]? = some (.int .i64 cs[k].2) := by
  induction cs generalizing k with
  | nil => simp at h
  | cons c cs ih =>
    cases k with
    | zero => simp
    | succ k =>
      have := ih (k := k) (by simpa using h)
      rw [show (k + 1) * 2 = k * 2 + 1 + 1 from by omega]
      simpa using this
theorem cmps_one (cs : List (Int × Int)) : ∀ u ∈ cmps cs, u.oneCell' = true := by
  induction cs with
  | nil => simp
  | cons c cs ih => intro u hu; simp at hu; rcases hu with rfl | rfl | hu
                    · rfl
                    · rfl
                    · exact ih u hu
theorem Reads.cmp {w : World} {B : Nat} {A : Option Addr} {cs : List (Int × Int)} {k : Nat} (h : Reads w B 2 A cs.length (cmps cs)) (hk : k < cs.length) :
    ∃ ad, A = some ad ∧ ad.block < B ∧ w.cell? (ad.add (k * 2)) = some (.int .i64 cs[k].1) ∧ w.cell? ⟨(ad.add (k * 2)).block, (ad.add (k * 2)).off + 1, none⟩ = some (.int .i64 cs[k].2) := by
  obtain ⟨ad, e, hb, hc⟩ := h.2 (by omega)
  refine ⟨ad, e, hb, hc _ _ (cmps_get hk).1, ?_⟩
  have := hc _ _ (cmps_get hk).2
  rw [← add_of_add] at this
  exact this

theorem cmps_push {w : World} {B : Nat} {e : TypeId} {v : Value} {acc : List (Int × Int)} {a b : Int} (h : w.ownsRow B e 2 v (acc.length + 1) (cmps acc ++ #[Value.int .i64 a, .int .i64 b].toList)) :
    w.ownsRow B e 2 v (acc ++ [(a, b)]).length (cmps (acc ++ [(a, b)])) := by simpa using h
theorem info_cmp : (Try.prog.info? 37).map (fun i => (i.zero, i.size, i.bytes)) = some (some (.agg #[.int .i64 0, .int .i64 0]), 2, 16) := by kernel_rfl
/-- the pairs of one shift -/
def shiftRow (n s : Int) : List (Int × Int) := (List.range (n - s).toNat).map fun i : Nat => ((i : Int), (i : Int) + s)
/-- the pairs from one shift on -/
def traceFrom (n : Int) : Nat → Int → List (Int × Int)
  | 0, _ => []
  | f + 1, s => if s < n then shiftRow n s ++ traceFrom n f (s * 2) else []
def ctrace (n : Int) : List (Int × Int) := traceFrom n 7 1
theorem traceFrom_len (n : Int) (h1 : n ≤ 64) (f : Nat) (s : Int) (hs : 0 ≤ s) : (traceFrom n f s).length ≤ f * 64 := by
  induction f generalizing s with
  | zero => simp [traceFrom]
  | succ f ih =>
    have := ih (s * 2) (by omega)
    unfold traceFrom
    split
    · simp [shiftRow]; omega
    · simp
theorem traceFrom_end (n : Int) (f : Nat) (s : Int) (h : ¬ s < n) : traceFrom n f s = [] := by
  cases f with
  | zero => rfl
  | succ f => rw [traceFrom, if_neg h]
theorem shift_take (n s : Int) (k : Nat) (hk : k < (n - s).toNat) : (shiftRow n s).take (k + 1) = (shiftRow n s).take k ++ [((k : Int), (k : Int) + s)] := by
  rw [List.take_succ_eq_append_getElem (by simpa [shiftRow] using hk)]; simp [shiftRow]
set_option maxRecDepth 100000 in
set_option maxHeartbeats 800000 in
theorem compactionTrace_any (n : Int) (w : World) (h0 : 0 ≤ n) (h1 : n ≤ 64) :
    Calls Try.prog 39 #[.int .i64 n] w fun e w' => ∃ v, e = .returned v ∧ w'.ownsRow w.heap.size 37 2 v (ctrace n).length (cmps (ctrace n)) ∧ Below w.heap.size w w' := by
  obtain ⟨i0, hi, hz0, hz1, hz2⟩ := info_parts info_cmp
  have hb0 : Below w.heap.size w (w.alloc (.cells #[] 37)) := (Below.refl _ _).alloc (Nat.le_refl _) _
  have ho0 : (w.alloc (.cells #[] 37)).ownsRow w.heap.size 37 2 (.slice (some ⟨w.heap.size, 0, none⟩) 0 0) 0 [] := World.ownsRow_made w #[] 0 (Nat.le_refl _) (by simp) (by simp)
  have htl := traceFrom_len n h1 7 1 (by omega)
  go_enter Try.func39, Try.ntmps39
  go_wp2_with fail
  go_loopw [3, 4] (fun v s wr => ∃ (acc : List (Int × Int)) (f : Nat) (sv : Int), s = .int .i64 sv ∧ 1 ≤ sv ∧ sv ≤ 128 ∧ n ≤ sv * 2 ^ f ∧ acc ++ traceFrom n f sv = ctrace n ∧
      wr.ownsRow w.heap.size 37 2 v acc.length (cmps acc) ∧ Below w.heap.size w wr) (fun _ s _ => (n - intOf s).toNat)
  case atStart => exact ⟨[], 7, 1, rfl, by omega, by omega, by omega, rfl, ho0, hb0⟩
  case round =>
    obtain ⟨acc, f, sv, rfl, hs1, hs2, hf, hacc, hown, hb⟩ := hrel
    by_cases hlt : sv < n
    · obtain ⟨f, rfl⟩ : ∃ g, f = g + 1 := by
        cases f with
        | zero => simp at hf; omega
        | succ g => exact ⟨g, rfl⟩
      rw [traceFrom, if_pos hlt] at hacc
      have hal : acc.length + (shiftRow n sv).length ≤ 448 := by
        have := congrArg List.length hacc
        simp at this
        unfold ctrace at this
        omega
      have HA := Lib.hid hacc; clear hacc
      have HF := Lib.hid hf; clear hf
      obtain ⟨wo, rfl⟩ : ∃ wo : World, wo = wr := ⟨_, rfl⟩
      go_wp2_with fail
      go_loopw [3, 15] (fun v i wr => ∃ (k : Nat) (xs : List (Int × Int)), k ≤ (n - sv).toNat ∧ i = .int .i64 k ∧ xs = acc ++ (shiftRow n sv).take k ∧ wr.ownsRow w.heap.size 37 2 v xs.length (cmps xs) ∧ Below w.heap.size w wr)
        (fun _ i _ => (n - sv).toNat - (intOf i).toNat)
      case atStart => exact ⟨0, acc, by omega, rfl, by simp, hown, hb⟩
      case round =>
        obtain ⟨k, xs, hk, rfl, hxs, hown, hb⟩ := hrel
        have HX := Lib.hid hxs; clear hxs
        by_cases hlt2 : k < (n - sv).toNat
        · have hsl : (shiftRow n sv).length = (n - sv).toNat := by simp [shiftRow]
          have hst := shift_take n sv k hlt2
          have hlk : xs.length ≤ 448 := by rw [HX.out]; simp; omega
          have HST := Lib.hid hst; clear hst
          have HSL := Lib.hid hsl; clear hsl
          go_wp2_with (at_builtin; refine wpList_push _ rfl _ _ 28 rfl w.heap.size 37 i0 _ 2 16 Try.underlying28 hi hz0 hz1 hz2 rfl (by decide) u3 _ _ rfl hown #[.int .i64 k, .int .i64 (k + sv)] rfl rfl (by simp [Value.oneCell']) (by omega) (by unfold maxLen; omega) hb.size ?_; intro g1 k1 w1 hown1 hg1 hb1 hat1)
          go_roundw
          case rel =>
            refine ⟨k + 1, xs ++ [((k : Int), (k : Int) + sv)], by omega, by go_num, ?_, cmps_push hown1, hb.trans hb1⟩
            rw [HST.out, ← List.append_assoc, HX.out]
          case measure => simp [intOf]; omega
        · have hsl : (shiftRow n sv).length = (n - sv).toNat := by simp [shiftRow]
          have HSL := Lib.hid hsl; clear hsl
          go_wp2_with fail
          go_roundw
          case rel =>
            refine ⟨acc ++ shiftRow n sv, f, sv * 2, rfl, by omega, by omega, ?_, ?_, ?_, hb⟩
            · have := HF.out; rw [Int.pow_succ] at this; rw [Int.mul_assoc, Int.mul_comm 2]; exact this
            · rw [List.append_assoc]; exact HA.out
            · have hx := HX.out
              rw [List.take_of_length_le (by rw [HSL.out]; omega)] at hx
              rw [← hx]; exact hown
          case measure => simp [intOf]; omega
    · have hend : acc = ctrace n := by rw [← hacc, traceFrom_end n f sv (by omega), List.append_nil]
      subst hend
      clear hacc
      go_wp2_with fail
      go_ret
      exact ⟨_, rfl, hown, hb⟩
set_option maxRecDepth 100000 in
set_option maxHeartbeats 800000 in
theorem l14Trace_any (n : Int) (w : World) (h0 : 0 ≤ n) (h1 : n ≤ 64) :
    Calls Try.prog 47 #[.int .i64 n] w fun e w' => ∃ v, e = .returned v ∧ w'.ownsRow w.heap.size 37 2 v (ctrace n).length (cmps (ctrace n)) ∧ Below w.heap.size w w' := by
  obtain ⟨i0, hi, hz0, hz1, hz2⟩ := info_parts info_cmp
  have hb0 : Below w.heap.size w (w.alloc (.cells #[] 37)) := (Below.refl _ _).alloc (Nat.le_refl _) _
  have ho0 : (w.alloc (.cells #[] 37)).ownsRow w.heap.size 37 2 (.slice (some ⟨w.heap.size, 0, none⟩) 0 0) 0 [] := World.ownsRow_made w #[] 0 (Nat.le_refl _) (by simp) (by simp)
  have htl := traceFrom_len n h1 7 1 (by omega)
  go_enter Try.func47, Try.ntmps47
  go_wp2_with fail
  go_loopw [3, 4] (fun v s wr => ∃ (acc : List (Int × Int)) (f : Nat) (sv : Int), s = .int .i64 sv ∧ 1 ≤ sv ∧ sv ≤ 128 ∧ n ≤ sv * 2 ^ f ∧ acc ++ traceFrom n f sv = ctrace n ∧
      wr.ownsRow w.heap.size 37 2 v acc.length (cmps acc) ∧ Below w.heap.size w wr) (fun _ s _ => (n - intOf s).toNat)
  case atStart => exact ⟨[], 7, 1, rfl, by omega, by omega, by omega, rfl, ho0, hb0⟩
  case round =>
    obtain ⟨acc, f, sv, rfl, hs1, hs2, hf, hacc, hown, hb⟩ := hrel
    by_cases hlt : sv < n
    · obtain ⟨f, rfl⟩ : ∃ g, f = g + 1 := by
        cases f with
        | zero => simp at hf; omega
        | succ g => exact ⟨g, rfl⟩
      rw [traceFrom, if_pos hlt] at hacc
      have hal : acc.length + (shiftRow n sv).length ≤ 448 := by
        have := congrArg List.length hacc
        simp at this
        unfold ctrace at this
        omega
      have HA := Lib.hid hacc; clear hacc
      have HF := Lib.hid hf; clear hf
      obtain ⟨wo, rfl⟩ : ∃ wo : World, wo = wr := ⟨_, rfl⟩
      go_wp2_with fail
      go_loopw [3, 5] (fun v i wr => ∃ (k : Nat) (xs : List (Int × Int)), k ≤ (n - sv).toNat ∧ i = .int .i64 k ∧ xs = acc ++ (shiftRow n sv).take k ∧ wr.ownsRow w.heap.size 37 2 v xs.length (cmps xs) ∧ Below w.heap.size w wr)
        (fun _ i _ => (n - sv).toNat - (intOf i).toNat)
      case atStart => exact ⟨0, acc, by omega, rfl, by simp, hown, hb⟩
      case round =>
        obtain ⟨k, xs, hk, rfl, hxs, hown, hb⟩ := hrel
        have HX := Lib.hid hxs; clear hxs
        by_cases hlt2 : k < (n - sv).toNat
        · have hsl : (shiftRow n sv).length = (n - sv).toNat := by simp [shiftRow]
          have hst := shift_take n sv k hlt2
          have hlk : xs.length ≤ 448 := by rw [HX.out]; simp; omega
          have hc : (k : Int) + sv < n := by omega
          have HST := Lib.hid hst; clear hst
          have HSL := Lib.hid hsl; clear hsl
          go_wp2_with (at_builtin; refine wpList_push _ rfl _ _ 28 rfl w.heap.size 37 i0 _ 2 16 Try.underlying28 hi hz0 hz1 hz2 rfl (by decide) u3 _ _ rfl hown #[.int .i64 k, .int .i64 (k + sv)] rfl rfl (by simp [Value.oneCell']) (by omega) (by unfold maxLen; omega) hb.size ?_; intro g1 k1 w1 hown1 hg1 hb1 hat1)
          go_roundw
          case rel =>
            refine ⟨k + 1, xs ++ [((k : Int), (k : Int) + sv)], by omega, by go_num, ?_, cmps_push hown1, hb.trans hb1⟩
            rw [HST.out, ← List.append_assoc, HX.out]
          case measure => simp [intOf]; omega
        · have hsl : (shiftRow n sv).length = (n - sv).toNat := by simp [shiftRow]
          have HSL := Lib.hid hsl; clear hsl
          go_wp2_with fail
          go_roundw
          case rel =>
            refine ⟨acc ++ shiftRow n sv, f, 2 * sv, rfl, by omega, by omega, ?_, ?_, ?_, hb⟩
            · have := HF.out; rw [Int.pow_succ] at this; rw [Int.mul_comm 2, Int.mul_assoc, Int.mul_comm 2]; exact this
            · rw [List.append_assoc, Int.mul_comm 2]; exact HA.out
            · have hx := HX.out
              rw [List.take_of_length_le (by rw [HSL.out]; omega)] at hx
              rw [← hx]; exact hown
          case measure => simp [intOf]; omega
    · have hend : acc = ctrace n := by rw [← hacc, traceFrom_end n f sv (by omega), List.append_nil]
      subst hend
      clear hacc
      go_wp2_with fail
      go_ret
      exact ⟨_, rfl, hown, hb⟩
/-- the marks that a walk through n comparators leaves, from k on -/
def cmarks (k : Int) (n : Nat) : List (Int × Int) := (List.range n).map fun i : Nat => (k + 2 * i, k + 2 * i + 1)
@[simp] theorem cmarks_length (k : Int) (n : Nat) : (cmarks k n).length = n := by simp [cmarks]
theorem cmarks_get {k : Int} {n i : Nat} (h : i < n) : (cmarks k n)[i]'(by simpa using h) = (k + 2 * i, k + 2 * i + 1) := by simp [cmarks]
theorem cmps_set1 (cs : List (Int × Int)) (k : Nat) (z : Int) (h : k < cs.length) : (cmps cs).set (k * 2) (.int .i64 z) = cmps (cs.set k (z, cs[k].2)) := by
  induction cs generalizing k with
  | nil => simp at h
  | cons c cs ih =>
    cases k with
    | zero => simp
    | succ k =>
      rw [show (k + 1) * 2 = k * 2 + 1 + 1 from by omega]
      simpa using ih k (by simpa using h)
theorem cmps_set2 (cs : List (Int × Int)) (k : Nat) (z : Int) (h : k < cs.length) : (cmps cs).set (k * 2 + 1) (.int .i64 z) = cmps (cs.set k (cs[k].1, z)) := by
  induction cs generalizing k with
  | nil => simp at h
  | cons c cs ih =>
    cases k with
    | zero => simp
    | succ k =>
      rw [show (k + 1) * 2 + 1 = (k * 2 + 1) + 1 + 1 from by omega]
      simpa using ih k (by simpa using h)
def ctraceOk (n : Int) : Bool := inB n 0 64
def ctraceV (n : Int) : List (Int × Int) := if ctraceOk n then ctrace n else []
theorem ctrace_len (n : Int) : (ctraceV n).length ≤ 448 := by
  unfold ctraceV
  split
  · rename_i h
    have := inB_iff.1 h
    exact traceFrom_len n this.2 7 1 (by omega)
  · simp
theorem CompactionTrace_any (n : Int) (w : World) :
    Calls Try.prog 13 #[.int .i64 n] w fun e w' => ∃ A c, e = .returned (.tuple #[.slice A (ctraceV n).length c, .bool (ctraceOk n)]) ∧
      w'.ownsRow w.heap.size 37 2 (.slice A (ctraceV n).length c) (ctraceV n).length (cmps (ctraceV n)) ∧ Below w.heap.size w w' := by
  cases h : inB n 0 64
  · have e1 : ctraceV n = [] := by simp [ctraceV, ctraceOk, h]
    rw [e1]
    go_enter Try.func13, Try.ntmps13
    go_wp2_with (go_at_call 40; refine (in_any _ _ _ _).mono ?_; rintro e w' ⟨rfl, rfl⟩)
    go_ret2
    exact ⟨none, 0, by simp [ctraceOk, h], World.ownsRow_nil _ _ _ _, Below.refl _ _⟩
  · have ⟨a1, a2⟩ := inB_iff.1 h
    have e1 : ctraceV n = ctrace n := by simp [ctraceV, ctraceOk, h]
    rw [e1]
    clear e1
    go_enter Try.func13, Try.ntmps13
    go_wp2_with (first | (go_at_call 40; refine (in_any _ _ _ _).mono ?_; rintro e w' ⟨rfl, rfl⟩) | (go_at_call 39; refine (compactionTrace_any n _ a1 a2).mono ?_; rintro e w1 ⟨v, rfl, hown, hb⟩))
    go_ret2
    obtain ⟨A, c, rfl⟩ := own_slice hown
    exact ⟨A, c, by simp [ctraceOk, h], hown, hb⟩
end Go.Proofs.Ytphcfjdhichfkaa
