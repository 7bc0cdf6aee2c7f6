/- Contracts of the helpers on lists of comparators. -/
import Derived.Test.YtfebnlojicpaaaaCore
import Derived.StillTailTactics
import Derived.Deep.RegionHeld3
namespace Go.Proofs.Ytfebnlojicpaaaa
open Go.RowKit
set_option linter.unusedVariables false

/-- the cells of a list of comparators -/
def cmps (cs : List (Int × Int)) : List Value := cs.flatMap fun c => [.int .i64 c.1, .int .i64 c.2]
@[simp] theorem cmps_nil : cmps [] = [] := rfl
@[simp] theorem cmps_cons (c : Int × Int) (cs : List (Int × Int)) : cmps (c :: cs) = .int .i64 c.1 :: .int .i64 c.2 :: cmps cs := rfl
@[simp] theorem cmps_append (xs ys : List (Int × Int)) : cmps (xs ++ ys) = cmps xs ++ cmps ys := by simp [cmps]
@[simp] theorem cmps_length (cs : List (Int × Int)) : (cmps cs).length = cs.length * 2 := by
  induction cs with
  | nil => rfl
  | cons c cs ih => simp [ih]; omega
theorem cmps_get {cs : List (Int × Int)} {k : Nat} (h : k < cs.length) : (cmps cs)[k * 2]? = some (.int .i64 cs[k].1) ∧ (cmps cs)[k * 2 + 1]? = some (.int .i64 cs[k].2) := by
  induction cs generalizing k with
  | nil => simp at h
  | cons c cs ih =>
    cases k with
    | zero => simp
    | succ k =>
      have := ih (k := k) (by simpa using h)
      rw [show (k + 1) * 2 = k * 2 + 1 + 1 from by omega]
      simpa using this
theorem cmps_one (cs : List (Int × Int)) : ∀ u ∈ cmps cs, u.oneCell' = true := by
  induction cs with
  | nil => simp
  | cons c cs ih => intro u hu; simp at hu; rcases hu with rfl | rfl | hu
                    · rfl
                    · rfl
                    · exact ih u hu
theorem Reads.cmp {w : World} {B : Nat} {A : Option Addr} {cs : List (Int × Int)} {k : Nat} (h : Reads w B 2 A cs.length (cmps cs)) (hk : k < cs.length) :
    ∃ ad, A = some ad ∧ ad.block < B ∧ w.cell? (ad.add (k * 2)) = some (.int .i64 cs[k].1) ∧ w.cell? ⟨(ad.add (k * 2)).block, (ad.add (k * 2)).off + 1, none⟩ = some (.int .i64 cs[k].2) := by
  obtain ⟨ad, e, hb, hc⟩ := h.2 (by omega)
  refine ⟨ad, e, hb, hc _ _ (cmps_get hk).1, ?_⟩
  have := hc _ _ (cmps_get hk).2
  rw [← add_of_add] at this
  exact this

theorem cmps_push {w : World} {B : Nat} {e : TypeId} {v : Value} {acc : List (Int × Int)} {a b : Int} (h : w.ownsRow B e 2 v (acc.length + 1) (cmps acc ++ #[Value.int .i64 a, .int .i64 b].toList)) :
    w.ownsRow B e 2 v (acc ++ [(a, b)]).length (cmps (acc ++ [(a, b)])) := by simpa using h
theorem eqComparator_any (a b : Int × Int) (w : World) :
    Calls Try.prog 61 #[.agg #[.int .i64 a.1, .int .i64 a.2], .agg #[.int .i64 b.1, .int .i64 b.2]] w fun e w' => e = .returned (.bool (decide (a = b))) ∧ Below w.heap.size w w' := by
  cases h1 : a.1 != b.1
  · have h1' : (a.1 == b.1) = true := by simpa [bne] using h1
    cases h2 : a.2 != b.2
    · have h2' : (a.2 == b.2) = true := by simpa [bne] using h2
      go_enter Try.func61, Try.ntmps61
      go_wp2
      go_ret
      exact ⟨retb (by symm; simp at h1' h2'; simp [Prod.ext_iff, h1', h2']), by go_grown⟩
    · have h2' : (a.2 == b.2) = false := by simpa [bne] using h2
      go_enter Try.func61, Try.ntmps61
      go_wp2
      go_ret
      exact ⟨retb (by symm; simp at h1' h2'; simp [Prod.ext_iff, h1', h2']), by go_grown⟩
  · have h1' : (a.1 == b.1) = false := by simpa [bne] using h1
    go_enter Try.func61, Try.ntmps61
    go_wp2
    go_ret
    exact ⟨retb (by symm; simp at h1'; simp [Prod.ext_iff, h1']), by go_grown⟩
set_option maxHeartbeats 400000 in
theorem eqComparatorS_any (A B : Option Addr) (xs ys : List (Int × Int)) (c d : Nat) (w : World) (hx : Reads w w.heap.size 2 A xs.length (cmps xs)) (hy : Reads w w.heap.size 2 B ys.length (cmps ys))
    (hl : xs.length ≤ 1099511627776) (hl' : ys.length ≤ 1099511627776) :
    Calls Try.prog 17 #[.slice A xs.length c, .slice B ys.length d] w fun e w' => e = .returned (.bool (decide (xs = ys))) ∧ Below w.heap.size w w' := by
  by_cases hne : xs.length = ys.length
  case neg =>
    have hd : ((xs.length : Int) == (ys.length : Int)) = false := by simp; omega
    have hd' : ((xs.length : Int) != (ys.length : Int)) = true := by simp; omega
    go_enter Try.func17, Try.ntmps17
    go_wp2_with fail
    go_ret
    exact ⟨retb (by symm; simp; intro h; exact hne (by rw [h])), Below.refl _ _⟩
  have hd : ((xs.length : Int) == (ys.length : Int)) = true := by simp; omega
  have hd' : ((xs.length : Int) != (ys.length : Int)) = false := by simp; omega
  have Hne := Lib.hid hne; clear hne
  go_enter Try.func17, Try.ntmps17
  go_wp2_with fail
  go_loopw [5] (fun i wr => ∃ k : Nat, k ≤ xs.length ∧ i = .int .i64 k ∧ Below w.heap.size w wr ∧ xs.take k = ys.take k) (fun i _ => xs.length - (intOf i).toNat)
  case atStart => exact ⟨0, by omega, rfl, Below.refl _ _, by simp⟩
  case round =>
    obtain ⟨k, hk, rfl, hb, heq⟩ := hrel
    have HE := Lib.hid heq; clear heq
    by_cases hlt : k < xs.length
    · have hlt' : k < ys.length := by have := Hne.out; omega
      obtain ⟨ad, rfl, had, hc0, hc1⟩ := (hx.below hb).cmp hlt
      obtain ⟨bd, rfl, hbd, hd0, hd1⟩ := (hy.below hb).cmp hlt'
      have hsz := hb.size
      have had1 : (ad.add (k * 2)).block < wr.heap.size := by rw [block_of_add]; omega
      have hbd1 : (bd.add (k * 2)).block < wr.heap.size := by rw [block_of_add]; omega
      go_wp2_with fail
      by_cases hv : xs[k] = ys[k]
      · have hde : decide (xs[k] = ys[k]) = true := by simpa using hv
        have HV := Lib.hid hv; clear hv
        go_region_held3 (fun w' => w'.cell? (ad.add (k * 2)) = some (.int .i64 xs[k].1) ∧ w'.cell? ⟨(ad.add (k * 2)).block, (ad.add (k * 2)).off + 1, none⟩ = some (.int .i64 xs[k].2) ∧ w'.cell? (bd.add (k * 2)) = some (.int .i64 ys[k].1) ∧ w'.cell? ⟨(bd.add (k * 2)).block, (bd.add (k * 2)).off + 1, none⟩ = some (.int .i64 ys[k].2)) (first | go_keep | (go_split_ands; refine ⟨?_, ?_, ?_, ?_⟩ <;> (rw [Below.cell hb1 (by simp; omega)]; assumption)))
          (first | (go_at_call 61; refine (eqComparator_any xs[k] ys[k] _).mono ?_; rintro e w1 ⟨rfl, hb1⟩))
        go_wp2_with fail
        go_roundw
        case rel => exact ⟨k + 1, by omega, by go_num, bthen hb (bthen (below_drewN (Below.refl _ _) 1) hb1), take_succ_eq HE.out hlt hlt' HV.out⟩
        case measure => simp [intOf]; omega
      · have hde : decide (xs[k] = ys[k]) = false := by simpa using hv
        have HV := Lib.hid hv; clear hv
        go_region_held3 (fun w' => w'.cell? (ad.add (k * 2)) = some (.int .i64 xs[k].1) ∧ w'.cell? ⟨(ad.add (k * 2)).block, (ad.add (k * 2)).off + 1, none⟩ = some (.int .i64 xs[k].2) ∧ w'.cell? (bd.add (k * 2)) = some (.int .i64 ys[k].1) ∧ w'.cell? ⟨(bd.add (k * 2)).block, (bd.add (k * 2)).off + 1, none⟩ = some (.int .i64 ys[k].2)) (first | go_keep | (go_split_ands; refine ⟨?_, ?_, ?_, ?_⟩ <;> (rw [Below.cell hb1 (by simp; omega)]; assumption)))
          (first | (go_at_call 61; refine (eqComparator_any xs[k] ys[k] _).mono ?_; rintro e w1 ⟨rfl, hb1⟩))
        go_wp2_with fail
        go_ret
        exact ⟨retb (by symm; simp only [decide_eq_false_iff_not]; intro h; exact HV.out (by simp [h])), bthen hb (bthen (below_drewN (Below.refl _ _) 1) hb1)⟩
    · go_wp2_with fail
      go_ret
      exact ⟨retb (by symm; simp only [decide_eq_true_eq]; have h := HE.out; have hk' := Hne.out; rwa [List.take_of_length_le (by omega), List.take_of_length_le (by omega)] at h), hb⟩
/-- the pairs of one shift -/
def shiftRow (n s : Int) : List (Int × Int) := (List.range (n - s).toNat).map fun i : Nat => ((i : Int), (i : Int) + s)
/-- the pairs from one shift on -/
def traceFrom (n : Int) : Nat → Int → List (Int × Int)
  | 0, _ => []
  | f + 1, s => if s < n then shiftRow n s ++ traceFrom n f (s * 2) else []
def ctrace (n : Int) : List (Int × Int) := traceFrom n 7 1
theorem traceFrom_len (n : Int) (h1 : n ≤ 64) (f : Nat) (s : Int) (hs : 0 ≤ s) : (traceFrom n f s).length ≤ f * 64 := by
  induction f generalizing s with
  | zero => simp [traceFrom]
  | succ f ih =>
    have := ih (s * 2) (by omega)
    unfold traceFrom
    split
    · simp [shiftRow]; omega
    · simp
theorem traceFrom_end (n : Int) (f : Nat) (s : Int) (h : ¬ s < n) : traceFrom n f s = [] := by
  cases f with
  | zero => rfl
  | succ f => rw [traceFrom, if_neg h]
theorem info_cmp : (Try.prog.info? 76).map (fun i => (i.zero, i.size, i.bytes)) = some (some (.agg #[.int .i64 0, .int .i64 0]), 2, 16) := by kernel_rfl
theorem shift_take (n s : Int) (k : Nat) (hk : k < (n - s).toNat) : (shiftRow n s).take (k + 1) = (shiftRow n s).take k ++ [((k : Int), (k : Int) + s)] := by
  rw [List.take_succ_eq_append_getElem (by simpa [shiftRow] using hk)]; simp [shiftRow]
set_option maxRecDepth 100000 in
set_option maxHeartbeats 800000 in
theorem compactionTrace_any (n : Int) (w : World) (h0 : 0 ≤ n) (h1 : n ≤ 64) :
    Calls Try.prog 60 #[.int .i64 n] w fun e w' => ∃ v, e = .returned v ∧ w'.ownsRow w.heap.size 76 2 v (ctrace n).length (cmps (ctrace n)) ∧ Below w.heap.size w w' := by
  obtain ⟨i0, hi, hz0, hz1, hz2⟩ := info_parts info_cmp
  have hb0 : Below w.heap.size w (w.alloc (.cells #[] 76)) := (Below.refl _ _).alloc (Nat.le_refl _) _
  have ho0 : (w.alloc (.cells #[] 76)).ownsRow w.heap.size 76 2 (.slice (some ⟨w.heap.size, 0, none⟩) 0 0) 0 [] := World.ownsRow_made w #[] 0 (Nat.le_refl _) (by simp) (by simp)
  have htl := traceFrom_len n h1 7 1 (by omega)
  go_enter Try.func60, Try.ntmps60
  go_wp2_with fail
  go_loopw [3, 4] (fun v s wr => ∃ (acc : List (Int × Int)) (f : Nat) (sv : Int), s = .int .i64 sv ∧ 1 ≤ sv ∧ sv ≤ 128 ∧ n ≤ sv * 2 ^ f ∧ acc ++ traceFrom n f sv = ctrace n ∧
      wr.ownsRow w.heap.size 76 2 v acc.length (cmps acc) ∧ Below w.heap.size w wr) (fun _ s _ => (n - intOf s).toNat)
  case atStart => exact ⟨[], 7, 1, rfl, by omega, by omega, by omega, rfl, ho0, hb0⟩
  case round =>
    obtain ⟨acc, f, sv, rfl, hs1, hs2, hf, hacc, hown, hb⟩ := hrel
    by_cases hlt : sv < n
    · obtain ⟨f, rfl⟩ : ∃ g, f = g + 1 := by
        cases f with
        | zero => simp at hf; omega
        | succ g => exact ⟨g, rfl⟩
      rw [traceFrom, if_pos hlt] at hacc
      have hal : acc.length + (shiftRow n sv).length ≤ 448 := by
        have := congrArg List.length hacc
        simp at this
        unfold ctrace at this
        omega
      have HA := Lib.hid hacc; clear hacc
      have HF := Lib.hid hf; clear hf
      obtain ⟨wo, rfl⟩ : ∃ wo : World, wo = wr := ⟨_, rfl⟩
      go_wp2_with fail
      go_loopw [3, 15] (fun v i wr => ∃ (k : Nat) (xs : List (Int × Int)), k ≤ (n - sv).toNat ∧ i = .int .i64 k ∧ xs = acc ++ (shiftRow n sv).take k ∧ wr.ownsRow w.heap.size 76 2 v xs.length (cmps xs) ∧ Below w.heap.size w wr)
        (fun _ i _ => (n - sv).toNat - (intOf i).toNat)
      case atStart => exact ⟨0, acc, by omega, rfl, by simp, hown, hb⟩
      case round =>
        obtain ⟨k, xs, hk, rfl, hxs, hown, hb⟩ := hrel
        have HX := Lib.hid hxs; clear hxs
        by_cases hlt2 : k < (n - sv).toNat
        · have hsl : (shiftRow n sv).length = (n - sv).toNat := by simp [shiftRow]
          have hst := shift_take n sv k hlt2
          have hlk : xs.length ≤ 448 := by rw [HX.out]; simp; omega
          have HST := Lib.hid hst; clear hst
          have HSL := Lib.hid hsl; clear hsl
          go_wp2_with (at_builtin; refine wpList_push _ rfl _ _ 22 rfl w.heap.size 76 i0 _ 2 16 Try.underlying22 hi hz0 hz1 hz2 rfl (by decide) u3 _ _ rfl hown #[.int .i64 k, .int .i64 (k + sv)] rfl rfl (by simp [Value.oneCell']) (by omega) (by unfold maxLen; omega) hb.size ?_; intro g1 k1 w1 hown1 hg1 hb1 hat1)
          go_roundw
          case rel =>
            refine ⟨k + 1, xs ++ [((k : Int), (k : Int) + sv)], by omega, by go_num, ?_, cmps_push hown1, hb.trans hb1⟩
            rw [HST.out, ← List.append_assoc, HX.out]
          case measure => simp [intOf]; omega
        · have hsl : (shiftRow n sv).length = (n - sv).toNat := by simp [shiftRow]
          have HSL := Lib.hid hsl; clear hsl
          go_wp2_with fail
          go_roundw
          case rel =>
            refine ⟨acc ++ shiftRow n sv, f, sv * 2, rfl, by omega, by omega, ?_, ?_, ?_, hb⟩
            · have := HF.out; rw [Int.pow_succ] at this; rw [Int.mul_assoc, Int.mul_comm 2]; exact this
            · rw [List.append_assoc]; exact HA.out
            · have hx := HX.out
              rw [List.take_of_length_le (by rw [HSL.out]; omega)] at hx
              rw [← hx]; exact hown
          case measure => simp [intOf]; omega
    · have hend : acc = ctrace n := by rw [← hacc, traceFrom_end n f sv (by omega), List.append_nil]
      subst hend
      clear hacc
      go_wp2_with fail
      go_ret
      exact ⟨_, rfl, hown, hb⟩
set_option maxRecDepth 100000 in
set_option maxHeartbeats 800000 in
theorem l14Trace_any (n : Int) (w : World) (h0 : 0 ≤ n) (h1 : n ≤ 64) :
    Calls Try.prog 58 #[.int .i64 n] w fun e w' => ∃ v, e = .returned v ∧ w'.ownsRow w.heap.size 76 2 v (ctrace n).length (cmps (ctrace n)) ∧ Below w.heap.size w w' := by
  obtain ⟨i0, hi, hz0, hz1, hz2⟩ := info_parts info_cmp
  have hb0 : Below w.heap.size w (w.alloc (.cells #[] 76)) := (Below.refl _ _).alloc (Nat.le_refl _) _
  have ho0 : (w.alloc (.cells #[] 76)).ownsRow w.heap.size 76 2 (.slice (some ⟨w.heap.size, 0, none⟩) 0 0) 0 [] := World.ownsRow_made w #[] 0 (Nat.le_refl _) (by simp) (by simp)
  have htl := traceFrom_len n h1 7 1 (by omega)
  go_enter Try.func58, Try.ntmps58
  go_wp2_with fail
  go_loopw [3, 4] (fun v s wr => ∃ (acc : List (Int × Int)) (f : Nat) (sv : Int), s = .int .i64 sv ∧ 1 ≤ sv ∧ sv ≤ 128 ∧ n ≤ sv * 2 ^ f ∧ acc ++ traceFrom n f sv = ctrace n ∧
      wr.ownsRow w.heap.size 76 2 v acc.length (cmps acc) ∧ Below w.heap.size w wr) (fun _ s _ => (n - intOf s).toNat)
  case atStart => exact ⟨[], 7, 1, rfl, by omega, by omega, by omega, rfl, ho0, hb0⟩
  case round =>
    obtain ⟨acc, f, sv, rfl, hs1, hs2, hf, hacc, hown, hb⟩ := hrel
    by_cases hlt : sv < n
    · obtain ⟨f, rfl⟩ : ∃ g, f = g + 1 := by
        cases f with
        | zero => simp at hf; omega
        | succ g => exact ⟨g, rfl⟩
      rw [traceFrom, if_pos hlt] at hacc
      have hal : acc.length + (shiftRow n sv).length ≤ 448 := by
        have := congrArg List.length hacc
        simp at this
        unfold ctrace at this
        omega
      have HA := Lib.hid hacc; clear hacc
      have HF := Lib.hid hf; clear hf
      obtain ⟨wo, rfl⟩ : ∃ wo : World, wo = wr := ⟨_, rfl⟩
      go_wp2_with fail
      go_loopw [3, 5] (fun v i wr => ∃ (k : Nat) (xs : List (Int × Int)), k ≤ (n - sv).toNat ∧ i = .int .i64 k ∧ xs = acc ++ (shiftRow n sv).take k ∧ wr.ownsRow w.heap.size 76 2 v xs.length (cmps xs) ∧ Below w.heap.size w wr)
        (fun _ i _ => (n - sv).toNat - (intOf i).toNat)
      case atStart => exact ⟨0, acc, by omega, rfl, by simp, hown, hb⟩
      case round =>
        obtain ⟨k, xs, hk, rfl, hxs, hown, hb⟩ := hrel
        have HX := Lib.hid hxs; clear hxs
        by_cases hlt2 : k < (n - sv).toNat
        · have hsl : (shiftRow n sv).length = (n - sv).toNat := by simp [shiftRow]
          have hst := shift_take n sv k hlt2
          have hlk : xs.length ≤ 448 := by rw [HX.out]; simp; omega
          have hc : (k : Int) + sv < n := by omega
          have HST := Lib.hid hst; clear hst
          have HSL := Lib.hid hsl; clear hsl
          go_wp2_with (at_builtin; refine wpList_push _ rfl _ _ 22 rfl w.heap.size 76 i0 _ 2 16 Try.underlying22 hi hz0 hz1 hz2 rfl (by decide) u3 _ _ rfl hown #[.int .i64 k, .int .i64 (k + sv)] rfl rfl (by simp [Value.oneCell']) (by omega) (by unfold maxLen; omega) hb.size ?_; intro g1 k1 w1 hown1 hg1 hb1 hat1)
          go_roundw
          case rel =>
            refine ⟨k + 1, xs ++ [((k : Int), (k : Int) + sv)], by omega, by go_num, ?_, cmps_push hown1, hb.trans hb1⟩
            rw [HST.out, ← List.append_assoc, HX.out]
          case measure => simp [intOf]; omega
        · have hsl : (shiftRow n sv).length = (n - sv).toNat := by simp [shiftRow]
          have HSL := Lib.hid hsl; clear hsl
          go_wp2_with fail
          go_roundw
          case rel =>
            refine ⟨acc ++ shiftRow n sv, f, 2 * sv, rfl, by omega, by omega, ?_, ?_, ?_, hb⟩
            · have := HF.out; rw [Int.pow_succ] at this; rw [Int.mul_comm 2, Int.mul_assoc, Int.mul_comm 2]; exact this
            · rw [List.append_assoc, Int.mul_comm 2]; exact HA.out
            · have hx := HX.out
              rw [List.take_of_length_le (by rw [HSL.out]; omega)] at hx
              rw [← hx]; exact hown
          case measure => simp [intOf]; omega
    · have hend : acc = ctrace n := by rw [← hacc, traceFrom_end n f sv (by omega), List.append_nil]
      subst hend
      clear hacc
      go_wp2_with fail
      go_ret
      exact ⟨_, rfl, hown, hb⟩
/-- the marks that a walk through n comparators leaves, from k on -/
def cmarks (k : Int) (n : Nat) : List (Int × Int) := (List.range n).map fun i : Nat => (k + 2 * i, k + 2 * i + 1)
@[simp] theorem cmarks_length (k : Int) (n : Nat) : (cmarks k n).length = n := by simp [cmarks]
theorem cmarks_get {k : Int} {n i : Nat} (h : i < n) : (cmarks k n)[i]'(by simpa using h) = (k + 2 * i, k + 2 * i + 1) := by simp [cmarks]
theorem cmps_set1 (cs : List (Int × Int)) (k : Nat) (z : Int) (h : k < cs.length) : (cmps cs).set (k * 2) (.int .i64 z) = cmps (cs.set k (z, cs[k].2)) := by
  induction cs generalizing k with
  | nil => simp at h
  | cons c cs ih =>
    cases k with
    | zero => simp
    | succ k =>
      rw [show (k + 1) * 2 = k * 2 + 1 + 1 from by omega]
      simpa using ih k (by simpa using h)
theorem cmps_set2 (cs : List (Int × Int)) (k : Nat) (z : Int) (h : k < cs.length) : (cmps cs).set (k * 2 + 1) (.int .i64 z) = cmps (cs.set k (cs[k].1, z)) := by
  induction cs generalizing k with
  | nil => simp at h
  | cons c cs ih =>
    cases k with
    | zero => simp
    | succ k =>
      rw [show (k + 1) * 2 + 1 = (k * 2 + 1) + 1 + 1 from by omega]
      simpa using ih k (by simpa using h)
set_option maxRecDepth 100000 in
set_option maxHeartbeats 800000 in
theorem markComparatorS_any (B : Nat) (A : Option Addr) (cs : List (Int × Int)) (c : Nat) (k0 : Int) (w : World) (hl : cs.length ≤ 1048576) (h0 : 0 ≤ k0) (h1 : k0 ≤ 1099511627776)
    (hown : w.ownsRow B 76 2 (.slice A cs.length c) cs.length (cmps cs)) :
    Calls Try.prog 18 #[.slice A cs.length c, .int .i64 k0] w fun e w' => e = .returned (.int .i64 (k0 + 2 * cs.length)) ∧
      w'.ownsRow B 76 2 (.slice A cs.length c) cs.length (cmps (cmarks k0 cs.length)) ∧ w.grownBy w' (Value.slice A cs.length c).ownBlock := by
  go_enter Try.func18, Try.ntmps18
  go_wp2_with fail
  go_loopw [1, 5] (fun kv i wr => ∃ (k : Nat) (xs : List (Int × Int)), k ≤ cs.length ∧ i = .int .i64 k ∧ kv = .int .i64 (k0 + 2 * k) ∧ xs.length = cs.length ∧ xs.take k = (cmarks k0 cs.length).take k ∧
      wr.ownsRow B 76 2 (.slice A cs.length c) cs.length (cmps xs) ∧ w.grownBy wr (Value.slice A cs.length c).ownBlock) (fun _ i _ => cs.length - (intOf i).toNat)
  case atStart => exact ⟨0, cs, by omega, rfl, by simp, rfl, by simp, hown, World.grownBy.refl _ _⟩
  case round =>
    obtain ⟨k, xs, hk, rfl, rfl, hlx, hpre, hown, hg⟩ := hrel
    have HX := Lib.hid hlx; clear hlx
    have HP := Lib.hid hpre; clear hpre
    by_cases hlt : k < cs.length
    · obtain ⟨g, rfl, hBg, hgl⟩ := own_at hown (by omega)
      have hkx : k < xs.length := by rw [HX.out]; exact hlt
      have c1 := hown.cellAt (k * 2) (by omega)
      rw [(cmps_get hkx).1] at c1
      have c2 := hown.cellAt (k * 2 + 1) (by omega)
      rw [(cmps_get hkx).2] at c2
      have f1 := hown.frozenAt (k * 2)
      have f2 := hown.frozenAt (k * 2 + 1)
      have s1 := hown.stored (k * 2) (.int .i64 (k0 + 2 * k))
      rw [cmps_set1 _ _ _ hkx] at s1
      have s2 := s1.1.stored (k * 2 + 1) (.int .i64 (k0 + 2 * k + 1))
      rw [cmps_set2 _ _ _ (by simpa using hkx)] at s2
      have S1 := Lib.hid s1; clear s1
      have S2 := Lib.hid s2; clear s2
      have G := Lib.hid hg; clear hg
      go_wp2_with fail
      go_roundw
      case rel =>
        refine ⟨k + 1, _, by omega, by go_num, by go_num, ?_, ?_, S2.out.1, (G.out.trans S1.out.2).trans S2.out.2⟩
        · simp [HX.out]
        · simp only [List.getElem_set_self, List.set_set]
          have e := cmarks_get (k := k0) hlt
          rw [← e]
          exact set_take_succ (by rw [HX.out, cmarks_length]) HP.out (by simpa using hlt)
      case measure => simp [intOf]; omega
    · go_wp2_with fail
      go_ret
      refine ⟨reti (by omega), ?_, hg⟩
      rwa [take_all_eq (by rw [HX.out, cmarks_length]) (by rw [cmarks_length]; omega) HP.out] at hown
set_option maxRecDepth 100000 in
set_option maxHeartbeats 800000 in
theorem heldComparatorS_any (A : Option Addr) (n c : Nat) (k0 : Int) (w : World) (hl : n ≤ 1048576) (h0 : 0 ≤ k0) (h1 : k0 ≤ 1099511627776)
    (hx : Reads w w.heap.size 2 A n (cmps (cmarks k0 n))) :
    Calls Try.prog 19 #[.slice A n c, .int .i64 k0] w fun e w' => e = .returned (.int .i64 (k0 + 2 * n)) ∧ w = w' := by
  go_enter Try.func19, Try.ntmps19
  go_wp2_with fail
  go_loop [1, 5] (fun kv i => ∃ (k : Nat), k ≤ n ∧ i = .int .i64 k ∧ kv = .int .i64 (k0 + 2 * k)) (fun _ i => n - (intOf i).toNat)
  case atStart => exact ⟨0, by omega, rfl, by simp⟩
  case round =>
    obtain ⟨k, hk, rfl, rfl⟩ := hrel
    by_cases hlt : k < n
    · have hx' : Reads w w.heap.size 2 A (cmarks k0 n).length (cmps (cmarks k0 n)) := by rw [cmarks_length]; exact hx
      obtain ⟨ad, rfl, -, c1, c2⟩ := hx'.cmp (k := k) (by simpa using hlt)
      rw [cmarks_get hlt] at c1 c2
      dsimp only at c1 c2
      clear hx'
      go_wp2_with fail
      go_round
      case rel => exact ⟨k + 1, by omega, by go_num, by go_num⟩
      case measure => simp [intOf]; omega
    · go_wp2_with fail
      go_ret
      exact ⟨reti (by omega), rfl⟩
def ctraceOk (n : Int) : Bool := inB n 0 64
def ctraceV (n : Int) : List (Int × Int) := if ctraceOk n then ctrace n else []
theorem ctrace_len (n : Int) : (ctraceV n).length ≤ 448 := by
  unfold ctraceV
  split
  · rename_i h
    have := inB_iff.1 h
    exact traceFrom_len n this.2 7 1 (by omega)
  · simp
theorem CompactionTrace_any (n : Int) (w : World) :
    Calls Try.prog 16 #[.int .i64 n] w fun e w' => ∃ A c, e = .returned (.tuple #[.slice A (ctraceV n).length c, .bool (ctraceOk n)]) ∧
      w'.ownsRow w.heap.size 76 2 (.slice A (ctraceV n).length c) (ctraceV n).length (cmps (ctraceV n)) ∧ Below w.heap.size w w' := by
  cases h : inB n 0 64
  · have e1 : ctraceV n = [] := by simp [ctraceV, ctraceOk, h]
    rw [e1]
    go_enter Try.func16, Try.ntmps16
    go_wp2_with (go_at_call 59; refine (in_any _ _ _ _).mono ?_; rintro e w' ⟨rfl, rfl⟩)
    go_ret2
    exact ⟨none, 0, by simp [ctraceOk, h], World.ownsRow_nil _ _ _ _, Below.refl _ _⟩
  · have ⟨a1, a2⟩ := inB_iff.1 h
    have e1 : ctraceV n = ctrace n := by simp [ctraceV, ctraceOk, h]
    rw [e1]
    clear e1
    go_enter Try.func16, Try.ntmps16
    go_wp2_with (first | (go_at_call 59; refine (in_any _ _ _ _).mono ?_; rintro e w' ⟨rfl, rfl⟩) | (go_at_call 60; refine (compactionTrace_any n _ a1 a2).mono ?_; rintro e w1 ⟨v, rfl, hown, hb⟩))
    go_ret2
    obtain ⟨A, c, rfl⟩ := own_slice hown
    exact ⟨A, c, by simp [ctraceOk, h], hown, hb⟩
theorem sCompactionTrace_any (n : Int) (w : World) :
    Calls Try.prog 15 #[.int .i64 n] w fun e w' => ∃ A c, e = .returned (.tuple #[.slice A (ctraceV n).length c, .bool (ctraceOk n)]) ∧
      w'.ownsRow w.heap.size 76 2 (.slice A (ctraceV n).length c) (ctraceV n).length (cmps (ctraceV n)) ∧ Below w.heap.size w w' := by
  cases h : inB n 0 64
  · have e1 : ctraceV n = [] := by simp [ctraceV, ctraceOk, h]
    rw [e1]
    go_enter Try.func15, Try.ntmps15
    go_wp2_with (go_at_call 57; refine (l1In_any _ _ _ _).mono ?_; rintro e w' ⟨rfl, rfl⟩)
    go_ret2
    exact ⟨some ⟨w.heap.size, 0, none⟩, 0, by simp [ctraceOk, h], World.ownsRow_made w #[] 0 (Nat.le_refl _) (by simp) (by simp), (Below.refl _ _).alloc (Nat.le_refl _) _⟩
  · have ⟨a1, a2⟩ := inB_iff.1 h
    have e1 : ctraceV n = ctrace n := by simp [ctraceV, ctraceOk, h]
    rw [e1]
    clear e1
    go_enter Try.func15, Try.ntmps15
    go_wp2_with (first | (go_at_call 57; refine (l1In_any _ _ _ _).mono ?_; rintro e w' ⟨rfl, rfl⟩) | (go_at_call 58; refine (l14Trace_any n _ a1 a2).mono ?_; rintro e w1 ⟨v, rfl, hown, hb⟩))
    go_ret2
    obtain ⟨A, c, rfl⟩ := own_slice hown
    exact ⟨A, c, by simp [ctraceOk, h], hown, hb⟩
set_option maxRecDepth 100000 in
set_option maxHeartbeats 800000 in
theorem FnExactCompactionTrace_any (n : Int) (w : World) :
    Calls Try.prog 3 #[.int .i64 n] w fun e w' => e = .returned (.bool true) ∧ Below w.heap.size w w' := by
  have e2 : ∀ x : Bool, (x != x) = false := by simp
  have hlen := ctrace_len n
  have hd : decide (ctraceV n = ctraceV n) = true := by simp
  go_enter Try.func3, Try.ntmps3
  go_wp2_with fail
  refine (sCompactionTrace_any n _).mono ?_
  rintro e w1 ⟨A1, c1, rfl, o1, b1⟩
  go_wp2_with fail
  refine (CompactionTrace_any n _).mono ?_
  rintro e w2 ⟨A2, c2, rfl, o2, b2⟩
  have r1 := (Reads.of_own o1).below b2 |>.more b2.size
  go_wp2_with fail
  refine (eqComparatorS_any A2 A1 (ctraceV n) (ctraceV n) c2 c1 w2 (Reads.of_own o2) r1 (by omega) (by omega)).mono ?_
  rintro e w3 ⟨rfl, b3⟩
  have o3 := own_below o2 b3 (Nat.le_refl _)
  have r3 := r1.below b3 |>.more b3.size
  go_wp2_with fail
  refine (markComparatorS_any _ A2 (ctraceV n) c2 1 w3 (by omega) (by omega) (by omega) o3).mono ?_
  rintro e w4 ⟨rfl, o4, g4⟩
  go_wp2_with fail
  have B4 : Below w1.heap.size w1 w4 := (b2.trans (b3.mono b2.size)).trans (below_of_grown g4 (by have := b2.size; have := b3.size; omega) (fun k hk => (own_lt o3 k hk).1))
  refine (heldComparatorS_any A2 (ctraceV n).length c2 1 w4 (by omega) (by omega) (by omega) (Reads.of_own o4)).mono ?_
  rintro e w5 ⟨rfl, rfl⟩
  have hq1 : ¬ ((1 : Int) + 2 * (ctraceV n).length < 0) := by omega
  have hq2 : ((1 : Int) + 2 * (ctraceV n).length != 1 + 2 * (ctraceV n).length) = false := by simp
  go_wp2_with fail
  refine (CompactionTrace_any n _).mono ?_
  rintro e w6 ⟨A6, c6, rfl, o6, b6⟩
  have o46 := own_below o4 b6 (Nat.le_refl _)
  have o16 := own_below o1 (B4.trans (b6.mono B4.size)) (Nat.le_refl _)
  go_wp2_with fail
  refine (eqComparatorS_any A6 A1 (ctraceV n) (ctraceV n) c6 c1 w6 (Reads.of_own o6) (Reads.of_own o16) (by omega) (by omega)).mono ?_
  rintro e w7 ⟨rfl, b7⟩
  have o47 := own_below o46 b7 (Nat.le_refl _)
  go_wp2_with fail
  refine (heldComparatorS_any A2 (ctraceV n).length c2 1 w7 (by omega) (by omega) (by omega) (Reads.of_own o47)).mono ?_
  rintro e w8 ⟨rfl, rfl⟩
  go_wp2_with fail
  go_ret
  exact ⟨rfl, bthen b1 ((B4.trans (b6.mono B4.size)).trans (b7.mono (Nat.le_trans B4.size b6.size)))⟩
end Go.Proofs.Ytfebnlojicpaaaa
