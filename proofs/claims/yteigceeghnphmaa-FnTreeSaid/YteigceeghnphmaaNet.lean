/- Contracts of the helpers on networks. -/
import Derived.Test.YteigceeghnphmaaCmp
namespace Go.Proofs.Yteigceeghnphmaa
open Go.RowKit
set_option linter.unusedVariables false

/-- a network that is being built behind a pointer -/
def NetAt (w : World) (B p : Nat) (W : Int) (cs : List (Int × Int)) : Prop :=
  ∃ v, Blk w p 26 #[.int .i64 W, v] ∧ w.ownsRow B 32 2 v cs.length (cmps cs) ∧ B ≤ p
theorem NetAt.below {w w' : World} {B p : Nat} {W : Int} {cs : List (Int × Int)} (h : NetAt w B p W cs) (hb : Below w.heap.size w w') : NetAt w' B p W cs := by
  obtain ⟨v, h1, h2, h3⟩ := h
  exact ⟨v, h1.below hb h1.lt, own_below h2 hb (Nat.le_refl _), h3⟩
set_option maxRecDepth 100000 in
set_option maxHeartbeats 800000 in
theorem put_any (B p : Nat) (W : Int) (cs : List (Int × Int)) (l h : Int) (w : World) (hn : NetAt w B p W cs) (hl : cs.length ≤ 1048576) :
    Calls Try.prog 61 #[.pointer (some ⟨p, 0, none⟩), .int .i64 l, .int .i64 h] w fun e w' => e = .returned (.tuple #[]) ∧ NetAt w' B p W (cs ++ [(l, h)]) ∧ Below B w w' := by
  obtain ⟨v, hblk, hown, hBp⟩ := hn
  obtain ⟨i0, hi, hz0, hz1, hz2⟩ := info_parts info_cmp
  have c1 : w.cell? ⟨p, 1, none⟩ = some v := hblk.cell 1
  have hlt := hblk.lt
  go_enter Try.func61, Try.ntmps61
  go_wp2_with (at_builtin; refine wpList_push _ rfl _ _ 24 rfl B 32 i0 _ 2 16 Try.underlying24 hi hz0 hz1 hz2 rfl (by decide) v _ _ rfl hown #[.int .i64 l, .int .i64 h] rfl rfl (by simp [Value.oneCell']) (by omega) (by unfold maxLen; omega) (by omega) ?_; intro g1 k1 w1 hown1 hg1 hb1 hat1; have hblk1 := hblk.grown hg1 (fun e => own_blk_ne hown hblk (by decide) e.symm); have c2 : w1.cell? ⟨p, 1, none⟩ = some v := hblk1.cell 1; have f2 := hblk1.frozen 1)
  refine bodyPost_end (results_none rfl _ _ _) rfl ⟨rfl, ⟨.slice (some ⟨g1, 0, none⟩) (cs.length + 1) k1, hblk1.set_ 1 _, ?_, hBp⟩, hb1.setCell hBp _⟩
  refine own_setCell ?_ (own_blk_ne hown1 hblk1 (by decide)) _
  exact cmps_push hown1
/-- the comparators that carry element i of the first list through the second -/
def mergeRow (i : Nat) (b : Int) : List (Int × Int) := (List.range b.toNat).map fun k : Nat => ((i : Int) + k, (i : Int) + k + 1)
def mergeFrom (b : Int) : Nat → List (Int × Int)
  | 0 => []
  | i + 1 => mergeRow i b ++ mergeFrom b i
theorem mergeRow_len (i : Nat) (b : Int) : (mergeRow i b).length = b.toNat := by simp [mergeRow]
theorem mergeFrom_len (b : Int) (i : Nat) : (mergeFrom b i).length = i * b.toNat := by
  induction i with
  | zero => simp [mergeFrom]
  | succ i ih => simp [mergeFrom, mergeRow_len, ih, Nat.succ_mul]; omega
theorem mergeRow_take (i : Nat) (b : Int) (k : Nat) (hk : k < b.toNat) : (mergeRow i b).take (k + 1) = (mergeRow i b).take k ++ [((i : Int) + k, (i : Int) + k + 1)] := by
  rw [List.take_succ_eq_append_getElem (by simpa [mergeRow] using hk)]; simp [mergeRow]
def mergeOk (a b : Int) : Bool := inB a 1 16 && inB b 1 (16 - a)
def mergeW (a b : Int) : Int := if mergeOk a b then a + b else 0
def mergeV (a b : Int) : List (Int × Int) := if mergeOk a b then mergeFrom b a.toNat else []
theorem mergeV_len (a b : Int) : (mergeV a b).length ≤ 256 := by
  unfold mergeV
  split
  · rename_i h
    simp only [mergeOk, Bool.and_eq_true] at h
    have h1 := inB_iff.1 h.1
    have h2 := inB_iff.1 h.2
    rw [mergeFrom_len]
    have : a.toNat * b.toNat ≤ 16 * 16 := Nat.mul_le_mul (by omega) (by omega)
    omega
  · simp
set_option maxRecDepth 100000 in
set_option maxHeartbeats 800000 in
theorem MergeNetwork_any (a b : Int) (w : World) :
    Calls Try.prog 18 #[.int .i64 a, .int .i64 b] w fun e w' => ∃ A c, e = .returned (.tuple #[.agg #[.int .i64 (mergeW a b), .slice A (mergeV a b).length c], .bool (mergeOk a b)]) ∧
      w'.ownsRow w.heap.size 32 2 (.slice A (mergeV a b).length c) (mergeV a b).length (cmps (mergeV a b)) ∧ Below w.heap.size w w' := by
  cases h1 : inB a 1 16
  · have e1 : mergeV a b = [] := by simp [mergeV, mergeOk, h1]
    have e2 : mergeW a b = 0 := by simp [mergeW, mergeOk, h1]
    have e3 : mergeOk a b = false := by simp [mergeOk, h1]
    rw [e1, e2, e3]
    clear e1 e2 e3
    go_enter Try.func18, Try.ntmps18
    go_wp2_with (go_at_call 60; refine (in_any _ _ _ _).mono ?_; rintro e w' ⟨rfl, rfl⟩)
    refine bodyPost_ret (v := .tuple #[.agg #[.int .i64 0, .slice none 0 0], .bool false]) (by simp [results, Try.results18, go_sem]) rfl ⟨none, 0, rfl, World.ownsRow_nil _ _ _ _, by go_grown⟩
  have ⟨a1, a2⟩ := inB_iff.1 h1
  cases h2 : inB b 1 (16 - a)
  · have e1 : mergeV a b = [] := by simp [mergeV, mergeOk, h1, h2]
    have e2 : mergeW a b = 0 := by simp [mergeW, mergeOk, h1, h2]
    have e3 : mergeOk a b = false := by simp [mergeOk, h1, h2]
    rw [e1, e2, e3]
    clear e1 e2 e3
    go_enter Try.func18, Try.ntmps18
    go_wp2_with (go_at_call 60; refine (in_any _ _ _ _).mono ?_; rintro e w' ⟨rfl, rfl⟩)
    refine bodyPost_ret (v := .tuple #[.agg #[.int .i64 0, .slice none 0 0], .bool false]) (by simp [results, Try.results18, go_sem]) rfl ⟨none, 0, rfl, World.ownsRow_nil _ _ _ _, by go_grown⟩
  have ⟨b1, b2⟩ := inB_iff.1 h2
  have e1 : mergeV a b = mergeFrom b a.toNat := by simp [mergeV, mergeOk, h1, h2]
  have e2 : mergeW a b = a + b := by simp [mergeW, mergeOk, h1, h2]
  have e3 : mergeOk a b = true := by simp [mergeOk, h1, h2]
  rw [e1, e2, e3]
  clear e1 e2 e3
  go_enter Try.func18, Try.ntmps18
  go_wp2_with (go_at_call 60; refine (in_any _ _ _ _).mono ?_; rintro e w' ⟨rfl, rfl⟩)
  have Br := Blk.new w 26 #[.int .i64 0, .slice none 0 0]
  obtain ⟨wb, hwb⟩ : ∃ wb, wb = w.alloc (.cells #[.int .i64 0, .slice none 0 0] 26) := ⟨_, rfl⟩
  have hbw : Below w.heap.size w wb := by rw [hwb]; go_grown
  have hsz : wb.heap.size = w.heap.size + 1 := by rw [hwb]; simp
  rw [← hwb] at Br ⊢
  have HW := Lib.hid hwb; clear hwb
  have hN : NetAt ((wb.alloc (.cells #[] 32)).alloc (.cells #[.int .i64 (a + b), .slice (some ⟨w.heap.size + 1, 0, none⟩) 0 0] 26)) (w.heap.size + 1) (w.heap.size + 1 + 1) (a + b) [] := by
    refine ⟨.slice (some ⟨w.heap.size + 1, 0, none⟩) 0 0, ?_, ?_, by omega⟩
    · have := Blk.new (wb.alloc (.cells #[] 32)) 26 #[.int .i64 (a + b), .slice (some ⟨w.heap.size + 1, 0, none⟩) 0 0]
      simpa [hsz] using this
    · have := World.ownsRow_made (base := w.heap.size + 1) (size := 2) (e := 32) wb #[] 0 (by omega) (by simp) (by simp)
      rw [hsz] at this
      exact this.alloc _
  have hB : Below (w.heap.size + 1) wb ((wb.alloc (.cells #[] 32)).alloc (.cells #[.int .i64 (a + b), .slice (some ⟨w.heap.size + 1, 0, none⟩) 0 0] 26)) :=
    ((Below.refl _ _).alloc (by omega) _).alloc (by simp; omega) _
  have HS := Lib.hid hsz; clear hsz
  go_loopw [7] (fun x wr => ∃ (i : Nat) (acc : List (Int × Int)), i ≤ a.toNat ∧ x = .int .i64 ((i : Int) - 1) ∧ acc ++ mergeFrom b i = mergeFrom b a.toNat ∧ NetAt wr (w.heap.size + 1) (w.heap.size + 1 + 1) (a + b) acc ∧ Below (w.heap.size + 1) wb wr)
    (fun x _ => (intOf x + 1).toNat)
  case atStart => exact ⟨a.toNat, [], by omega, by rw [Int.toNat_of_nonneg (by omega)], rfl, hN, hB⟩
  case round =>
    clear hN hB
    obtain ⟨i, acc, hi, rfl, hacc, hN, hB⟩ := hrel
    cases i with
    | zero =>
      have hend : acc = mergeFrom b a.toNat := by simpa [mergeFrom] using hacc
      clear hacc
      have Br1 := Br.below hB (by omega)
      obtain ⟨v, hblk, hown, -⟩ := hN
      obtain ⟨A, c, rfl⟩ := own_slice hown
      have c0 : wr.cell? ⟨w.heap.size + 1 + 1, 0, none⟩ = some (.int .i64 (a + b)) := hblk.cell 0
      have c1 : wr.cell? ⟨w.heap.size + 1 + 1, 1, none⟩ = some (.slice A acc.length c) := hblk.cell 1
      have d0 : wr.cell? ⟨w.heap.size, 0, none⟩ = some (.int .i64 0) := Br1.cell 0
      have d1 : wr.cell? ⟨w.heap.size, 1, none⟩ = some (.slice none 0 0) := Br1.cell 1
      have f0 := Br1.frozen 0
      have f1 := Br1.frozen 1
      have hl := hblk.lt
      have o1 := own_setCell hown (p := ⟨w.heap.size, 0, none⟩) (own_blk_ne hown Br1 (by decide)) (.int .i64 (a + b))
      have o2 := own_setCell o1 (p := ⟨w.heap.size, 1, none⟩) (own_blk_ne hown Br1 (by decide)) (.slice A acc.length c)
      have O2 := Lib.hid (own_base o2 (Nat.le_succ _)); clear o1 o2 hown
      have hbe := (((hbw.trans (hB.mono (Nat.le_succ _))).setCell (p := ⟨w.heap.size, 0, none⟩) (Nat.le_refl _) (.int .i64 (a + b))).setCell (p := ⟨w.heap.size, 1, none⟩) (Nat.le_refl _) (.slice A acc.length c))
      have Bf := (Br1.set_ 0 (.int .i64 (a + b))).set_ 1 (.slice A acc.length c)
      have r0 : ((wr.setCell ⟨w.heap.size, 0, none⟩ (.int .i64 (a + b))).setCell ⟨w.heap.size, 1, none⟩ (.slice A acc.length c)).cell? ⟨w.heap.size, 0, none⟩ = some (.int .i64 (a + b)) := Bf.cell 0
      have r1 : ((wr.setCell ⟨w.heap.size, 0, none⟩ (.int .i64 (a + b))).setCell ⟨w.heap.size, 1, none⟩ (.slice A acc.length c)).cell? ⟨w.heap.size, 1, none⟩ = some (.slice A acc.length c) := Bf.cell 1
      have R0 := Lib.hid r0; clear r0
      have R1 := Lib.hid r1; clear r1
      have HE := Lib.hid hend; clear hend
      go_wp2_with fail
      refine bodyPost_ret (v := .tuple #[.agg #[.int .i64 (a + b), .slice A acc.length c], .bool true]) (by simp [results, Try.results18, go_sem, R0.out, R1.out]) rfl ?_
      rw [← HE.out]
      exact ⟨A, c, rfl, O2.out, hbe⟩
    | succ i =>
      have hal : acc.length ≤ 256 := by
        have := congrArg List.length hacc
        rw [List.length_append, mergeFrom_len, mergeFrom_len] at this
        have h3 : a.toNat * b.toNat ≤ 16 * 16 := Nat.mul_le_mul (by omega) (by omega)
        omega
      have hi' : (i : Int) < a := by omega
      have ei : ((i + 1 : Nat) : Int) - 1 = i := by omega
      rw [ei]
      have HA := Lib.hid hacc; clear hacc
      have HE := Lib.hid ei; clear ei
      obtain ⟨wo, rfl⟩ : ∃ wo : World, wo = wr := ⟨_, rfl⟩
      go_wp2_with fail
      go_loopw [8] (fun x wr => ∃ (k : Nat) (xs : List (Int × Int)), k ≤ b.toNat ∧ x = .int .i64 ((i : Int) + k) ∧ xs = acc ++ (mergeRow i b).take k ∧ NetAt wr (w.heap.size + 1) (w.heap.size + 1 + 1) (a + b) xs ∧ Below (w.heap.size + 1) wb wr)
        (fun x _ => ((i : Int) + b - intOf x).toNat)
      case atStart => exact ⟨0, acc, by omega, by simp, by simp, hN, hB⟩
      case round =>
        clear hN hB
        obtain ⟨k, xs, hk, rfl, hxs, hN, hB⟩ := hrel
        have HX := Lib.hid hxs; clear hxs
        by_cases hlt : k < b.toNat
        · have hlx : xs.length ≤ 1048576 := by rw [HX.out]; simp [mergeRow_len]; omega
          go_wp2_with (go_at_call 61; refine (put_any _ _ _ _ _ _ _ hN hlx).mono ?_; rintro e w1 ⟨rfl, hN1, hB1⟩)
          go_roundw
          case rel => exact ⟨k + 1, _, by omega, by go_num, by rw [HX.out, mergeRow_take _ _ _ hlt, List.append_assoc], hN1, hB.trans hB1⟩
          case measure => simp [intOf]; omega
        · go_wp2_with fail
          go_roundw
          case rel =>
            refine ⟨i, xs, by omega, by go_num, ?_, hN, hB⟩
            rw [HX.out, List.take_of_length_le (by rw [mergeRow_len]; omega), List.append_assoc]
            exact HA.out
          case measure => simp [intOf]
set_option maxRecDepth 100000 in
set_option maxHeartbeats 800000 in
theorem sMergeNetwork_any (a b : Int) (w : World) :
    Calls Try.prog 19 #[.int .i64 a, .int .i64 b] w fun e w' => ∃ A c, e = .returned (.tuple #[.agg #[.int .i64 (mergeW a b), .slice A (mergeV a b).length c], .bool (mergeOk a b)]) ∧
      w'.ownsRow w.heap.size 32 2 (.slice A (mergeV a b).length c) (mergeV a b).length (cmps (mergeV a b)) ∧ Below w.heap.size w w' := by
  cases h1 : inB a 1 16
  · have e1 : mergeV a b = [] := by simp [mergeV, mergeOk, h1]
    have e2 : mergeW a b = 0 := by simp [mergeW, mergeOk, h1]
    have e3 : mergeOk a b = false := by simp [mergeOk, h1]
    rw [e1, e2, e3]
    clear e1 e2 e3
    go_enter Try.func19, Try.ntmps19
    go_wp2_with (go_at_call 62; refine (l1In_any _ _ _ _).mono ?_; rintro e w' ⟨rfl, rfl⟩)
    refine bodyPost_ret (v := .tuple #[.agg #[.int .i64 0, .slice none 0 0], .bool false]) (by simp [results, Try.results19, go_sem]) rfl ⟨none, 0, rfl, World.ownsRow_nil _ _ _ _, by go_grown⟩
  have ⟨a1, a2⟩ := inB_iff.1 h1
  cases h2 : inB b 1 (16 - a)
  · have e1 : mergeV a b = [] := by simp [mergeV, mergeOk, h1, h2]
    have e2 : mergeW a b = 0 := by simp [mergeW, mergeOk, h1, h2]
    have e3 : mergeOk a b = false := by simp [mergeOk, h1, h2]
    rw [e1, e2, e3]
    clear e1 e2 e3
    go_enter Try.func19, Try.ntmps19
    go_wp2_with (go_at_call 62; refine (l1In_any _ _ _ _).mono ?_; rintro e w' ⟨rfl, rfl⟩)
    refine bodyPost_ret (v := .tuple #[.agg #[.int .i64 0, .slice none 0 0], .bool false]) (by simp [results, Try.results19, go_sem]) rfl ⟨none, 0, rfl, World.ownsRow_nil _ _ _ _, by go_grown⟩
  have ⟨b1, b2⟩ := inB_iff.1 h2
  have e1 : mergeV a b = mergeFrom b a.toNat := by simp [mergeV, mergeOk, h1, h2]
  have e2 : mergeW a b = a + b := by simp [mergeW, mergeOk, h1, h2]
  have e3 : mergeOk a b = true := by simp [mergeOk, h1, h2]
  rw [e1, e2, e3]
  clear e1 e2 e3
  obtain ⟨i0, hi, hz0, hz1, hz2⟩ := info_parts info_cmp
  go_enter Try.func19, Try.ntmps19
  go_wp2_with (go_at_call 62; refine (l1In_any _ _ _ _).mono ?_; rintro e w' ⟨rfl, rfl⟩)
  have Br := Blk.new w 26 #[.int .i64 0, .slice none 0 0]
  obtain ⟨wb, hwb⟩ : ∃ wb, wb = w.alloc (.cells #[.int .i64 0, .slice none 0 0] 26) := ⟨_, rfl⟩
  have hbw : Below w.heap.size w wb := by rw [hwb]; go_grown
  have hsz : wb.heap.size = w.heap.size + 1 := by rw [hwb]; simp
  rw [← hwb] at Br ⊢
  have HW := Lib.hid hwb; clear hwb
  have hN : NetAt (wb.alloc (.cells #[.int .i64 (a + b), .slice none 0 0] 26)) (w.heap.size + 1) (w.heap.size + 1) (a + b) [] := by
    refine ⟨.slice none 0 0, ?_, World.ownsRow_nil _ _ _ _, Nat.le_refl _⟩
    have := Blk.new wb 26 #[.int .i64 (a + b), .slice none 0 0]
    simpa [hsz] using this
  have hB : Below (w.heap.size + 1) wb (wb.alloc (.cells #[.int .i64 (a + b), .slice none 0 0] 26)) := (Below.refl _ _).alloc (by omega) _
  have HS := Lib.hid hsz; clear hsz
  go_loopw [7] (fun x wr => ∃ (i : Nat) (acc : List (Int × Int)), i ≤ a.toNat ∧ x = .int .i64 ((i : Int) - 1) ∧ acc ++ mergeFrom b i = mergeFrom b a.toNat ∧ NetAt wr (w.heap.size + 1) (w.heap.size + 1) (a + b) acc ∧ Below (w.heap.size + 1) wb wr)
    (fun x _ => (intOf x + 1).toNat)
  case atStart => exact ⟨a.toNat, [], by omega, by rw [Int.toNat_of_nonneg (by omega)], rfl, hN, hB⟩
  case round =>
    clear hN hB
    obtain ⟨i, acc, hi', rfl, hacc, hN, hB⟩ := hrel
    cases i with
    | zero =>
      have hend : acc = mergeFrom b a.toNat := by simpa [mergeFrom] using hacc
      clear hacc
      have Br1 := Br.below hB (by omega)
      obtain ⟨v, hblk, hown, -⟩ := hN
      obtain ⟨A, c, rfl⟩ := own_slice hown
      have c0 : wr.cell? ⟨w.heap.size + 1, 0, none⟩ = some (.int .i64 (a + b)) := hblk.cell 0
      have c1 : wr.cell? ⟨w.heap.size + 1, 1, none⟩ = some (.slice A acc.length c) := hblk.cell 1
      have d0 : wr.cell? ⟨w.heap.size, 0, none⟩ = some (.int .i64 0) := Br1.cell 0
      have d1 : wr.cell? ⟨w.heap.size, 1, none⟩ = some (.slice none 0 0) := Br1.cell 1
      have f0 := Br1.frozen 0
      have f1 := Br1.frozen 1
      have hl := hblk.lt
      have o1 := own_setCell hown (p := ⟨w.heap.size, 0, none⟩) (own_blk_ne hown Br1 (by decide)) (.int .i64 (a + b))
      have o2 := own_setCell o1 (p := ⟨w.heap.size, 1, none⟩) (own_blk_ne hown Br1 (by decide)) (.slice A acc.length c)
      have O2 := Lib.hid (own_base o2 (Nat.le_succ _)); clear o1 o2 hown
      have hbe := (((hbw.trans (hB.mono (Nat.le_succ _))).setCell (p := ⟨w.heap.size, 0, none⟩) (Nat.le_refl _) (.int .i64 (a + b))).setCell (p := ⟨w.heap.size, 1, none⟩) (Nat.le_refl _) (.slice A acc.length c))
      have Bf := (Br1.set_ 0 (.int .i64 (a + b))).set_ 1 (.slice A acc.length c)
      have r0 : ((wr.setCell ⟨w.heap.size, 0, none⟩ (.int .i64 (a + b))).setCell ⟨w.heap.size, 1, none⟩ (.slice A acc.length c)).cell? ⟨w.heap.size, 0, none⟩ = some (.int .i64 (a + b)) := Bf.cell 0
      have r1 : ((wr.setCell ⟨w.heap.size, 0, none⟩ (.int .i64 (a + b))).setCell ⟨w.heap.size, 1, none⟩ (.slice A acc.length c)).cell? ⟨w.heap.size, 1, none⟩ = some (.slice A acc.length c) := Bf.cell 1
      have R0 := Lib.hid r0; clear r0
      have R1 := Lib.hid r1; clear r1
      have HE := Lib.hid hend; clear hend
      go_wp2_with fail
      refine bodyPost_ret (v := .tuple #[.agg #[.int .i64 (a + b), .slice A acc.length c], .bool true]) (by simp [results, Try.results19, go_sem, R0.out, R1.out]) rfl ?_
      rw [← HE.out]
      exact ⟨A, c, rfl, O2.out, hbe⟩
    | succ i =>
      have hal : acc.length ≤ 256 := by
        have := congrArg List.length hacc
        rw [List.length_append, mergeFrom_len, mergeFrom_len] at this
        have h3 : a.toNat * b.toNat ≤ 16 * 16 := Nat.mul_le_mul (by omega) (by omega)
        omega
      have hia : (i : Int) < a := by omega
      have ei : ((i + 1 : Nat) : Int) - 1 = i := by omega
      rw [ei]
      have HA := Lib.hid hacc; clear hacc
      have HE := Lib.hid ei; clear ei
      obtain ⟨wo, rfl⟩ : ∃ wo : World, wo = wr := ⟨_, rfl⟩
      go_wp2_with fail
      go_loopw [8] (fun x wr => ∃ (k : Nat) (xs : List (Int × Int)), k ≤ b.toNat ∧ x = .int .i64 k ∧ xs = acc ++ (mergeRow i b).take k ∧ NetAt wr (w.heap.size + 1) (w.heap.size + 1) (a + b) xs ∧ Below (w.heap.size + 1) wb wr)
        (fun x _ => (b - intOf x).toNat)
      case atStart => exact ⟨0, acc, by omega, by simp, by simp, hN, hB⟩
      case round =>
        clear hN hB
        obtain ⟨k, xs, hk, rfl, hxs, hN, hB⟩ := hrel
        have HX := Lib.hid hxs; clear hxs
        by_cases hlt : k < b.toNat
        · have hlx : xs.length ≤ 1048576 := by rw [HX.out]; simp [mergeRow_len]; omega
          obtain ⟨v, hblk, hown, hBp⟩ := hN
          have c1 : wr.cell? ⟨w.heap.size + 1, 1, none⟩ = some v := hblk.cell 1
          have hl := hblk.lt
          go_wp2_with (at_builtin; refine wpList_push _ rfl _ _ 24 rfl (w.heap.size + 1) 32 i0 _ 2 16 Try.underlying24 hi hz0 hz1 hz2 rfl (by decide) v _ _ rfl hown #[.int .i64 (i + k), .int .i64 (i + k + 1)] rfl rfl (by simp [Value.oneCell']) (by omega) (by unfold maxLen; omega) (by omega) ?_; intro g1 k1 w1 hown1 hg1 hb1 hat1; have hblk1 := hblk.grown hg1 (fun e => own_blk_ne hown hblk (by decide) e.symm); have c2 : w1.cell? ⟨w.heap.size + 1, 1, none⟩ = some v := hblk1.cell 1; have f2 := hblk1.frozen 1)
          go_roundw
          case rel =>
            refine ⟨k + 1, xs ++ [((i : Int) + k, (i : Int) + k + 1)], by omega, by go_num, by rw [HX.out, mergeRow_take _ _ _ hlt, List.append_assoc], ⟨.slice (some ⟨g1, 0, none⟩) (xs.length + 1) k1, hblk1.set_ 1 _, ?_, hBp⟩, (hB.trans hb1).setCell (Nat.le_refl _) _⟩
            exact own_setCell (cmps_push hown1) (own_blk_ne hown1 hblk1 (by decide)) _
          case measure => simp [intOf]; omega
        · go_wp2_with fail
          go_roundw
          case rel =>
            refine ⟨i, xs, by omega, by go_num, ?_, hN, hB⟩
            rw [HX.out, List.take_of_length_le (by rw [mergeRow_len]; omega), List.append_assoc]
            exact HA.out
          case measure => simp [intOf]
end Go.Proofs.Yteigceeghnphmaa
