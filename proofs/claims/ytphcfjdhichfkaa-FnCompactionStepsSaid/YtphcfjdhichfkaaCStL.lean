/- The walk of the law on the steps of a compaction. -/
import Derived.Test.YtphcfjdhichfkaaCStM
import Derived.Test.YtphcfjdhichfkaaDrawB
import Derived.Deep.DeepCutAuto
namespace Go.Proofs.Ytphcfjdhichfkaa
open Go.RowKit
set_option linter.unusedVariables false
structure CsW (w : World) (B gN gF gB n : Nat) (st : List Int × List Int × List Bool) : Prop where
  rN : w.ownsRow B 3 1 (.slice (some ⟨gN, 0, none⟩) n n) n (ints st.1)
  rF : w.ownsRow B 3 1 (.slice (some ⟨gF, 0, none⟩) n n) n (ints st.2.1)
  rB : w.ownsRow B 4 1 (.slice (some ⟨gB, 0, none⟩) n n) n (bools st.2.2)
  l1 : st.1.length = n
  l2 : st.2.1.length = n
  l3 : st.2.2.length = n
  ne : gN ≠ gF ∧ gN ≠ gB ∧ gF ≠ gB
section
variable {w : World} {B gN gF gB n : Nat} {st : List Int × List Int × List Bool}
theorem CsW.below {w' : World} (h : CsW w B gN gF gB n st) (hb : Below w.heap.size w w') : CsW w' B gN gF gB n st :=
  ⟨own_below h.rN hb (Nat.le_refl _), own_below h.rF hb (Nat.le_refl _), own_below h.rB hb (Nat.le_refl _), h.l1, h.l2, h.l3, h.ne⟩
theorem CsW.cN (h : CsW w B gN gF gB n st) (k : Nat) (hk : k < n) : w.cell? ⟨gN, k, none⟩ = some (.int .i64 (st.1[k]?.getD 0)) := by
  have hl := h.l1
  rw [h.rN.cellAt k (by omega), ints_get (by omega), List.getElem?_eq_getElem (by omega)]; rfl
theorem CsW.cF (h : CsW w B gN gF gB n st) (k : Nat) (hk : k < n) : w.cell? ⟨gF, k, none⟩ = some (.int .i64 (st.2.1[k]?.getD 0)) := by
  have hl := h.l2
  rw [h.rF.cellAt k (by omega), ints_get (by omega), List.getElem?_eq_getElem (by omega)]; rfl
theorem CsW.cB (h : CsW w B gN gF gB n st) (k : Nat) (hk : k < n) : w.cell? ⟨gB, k, none⟩ = some (.bool (st.2.2[k]?.getD false)) := by
  have hl := h.l3
  rw [h.rB.cellAt k (by omega), bools_get (by omega), List.getElem?_eq_getElem (by omega)]; rfl
theorem CsW.setN (h : CsW w B gN gF gB n st) (k : Nat) (z : Int) : CsW (w.setCell ⟨gN, k, none⟩ (.int .i64 z)) B gN gF gB n (st.1.set k z, st.2.1, st.2.2) := by
  refine ⟨?_, own_setCell h.rF (p := ⟨gN, k, none⟩) (fun e => h.ne.1 (Option.some.inj e).symm) _, own_setCell h.rB (p := ⟨gN, k, none⟩) (fun e => h.ne.2.1 (Option.some.inj e).symm) _, by simp [h.l1], h.l2, h.l3, h.ne⟩
  have := (h.rN.stored k (.int .i64 z)).1
  rwa [show (ints st.1).set k (.int .i64 z) = ints (st.1.set k z) by simp [ints, List.map_set]] at this
theorem CsW.setF (h : CsW w B gN gF gB n st) (k : Nat) (z : Int) : CsW (w.setCell ⟨gF, k, none⟩ (.int .i64 z)) B gN gF gB n (st.1, st.2.1.set k z, st.2.2) := by
  refine ⟨own_setCell h.rN (p := ⟨gF, k, none⟩) (fun e => h.ne.1 (Option.some.inj e)) _, ?_, own_setCell h.rB (p := ⟨gF, k, none⟩) (fun e => h.ne.2.2 (Option.some.inj e).symm) _, h.l1, by simp [h.l2], h.l3, h.ne⟩
  have := (h.rF.stored k (.int .i64 z)).1
  rwa [show (ints st.2.1).set k (.int .i64 z) = ints (st.2.1.set k z) by simp [ints, List.map_set]] at this
theorem CsW.setB (h : CsW w B gN gF gB n st) (k : Nat) (z : Bool) : CsW (w.setCell ⟨gB, k, none⟩ (.bool z)) B gN gF gB n (st.1, st.2.1, st.2.2.set k z) := by
  refine ⟨own_setCell h.rN (p := ⟨gB, k, none⟩) (fun e => h.ne.2.1 (Option.some.inj e)) _, own_setCell h.rF (p := ⟨gB, k, none⟩) (fun e => h.ne.2.2 (Option.some.inj e)) _, ?_, h.l1, h.l2, by simp [h.l3], h.ne⟩
  have := (h.rB.stored k (.bool z)).1
  rwa [show (bools st.2.2).set k (.bool z) = bools (st.2.2.set k z) by simp [bools, List.map_set]] at this
end
theorem csStep_no (st : List Int × List Int × List Bool) (a b : Nat) (h : ¬ (st.2.2[b]?.getD false = true ∧ (st.2.1[b]?.getD 0) / ((b : Int) - (a : Int)) % 2 = 1)) : csStep st ((a : Int), (b : Int)) = st := by
  unfold csStep
  rw [if_neg (by simpa using h)]
theorem csStep_yes (st : List Int × List Int × List Bool) (a b : Nat) (h : st.2.2[b]?.getD false = true ∧ (st.2.1[b]?.getD 0) / ((b : Int) - (a : Int)) % 2 = 1) :
    csStep st ((a : Int), (b : Int)) = ((st.1.set a (st.1[b]?.getD 0)).set b 0, st.2.1.set a (st.2.1[b]?.getD 0), (st.2.2.set a true).set b false) := by
  unfold csStep
  rw [if_pos (by simpa using h)]
  rfl
theorem ctrace_mem (n : Int) (u : Nat) : ∀ s : Int, 1 ≤ s → ∀ c ∈ traceFrom n u s, 0 ≤ c.1 ∧ c.1 < c.2 ∧ c.2 < n := by
  induction u with
  | zero => intro s hs c hc; simp [traceFrom] at hc
  | succ u ih =>
    intro s hs c hc
    rw [traceFrom] at hc
    split at hc
    · rcases List.mem_append.1 hc with h | h
      · simp [shiftRow] at h
        obtain ⟨k, hk, rfl⟩ := h
        simp only
        omega
      · exact ih (s * 2) (by omega) c h
    · cases hc
def csOk (st : List Int × List Int × List Bool) : Prop := ∀ i : Nat, 0 ≤ st.2.1[i]?.getD 0 ∧ st.2.1[i]?.getD 0 ≤ 64
theorem set_ok {l : List Int} {a : Nat} {z : Int} (h : ∀ i : Nat, 0 ≤ l[i]?.getD 0 ∧ l[i]?.getD 0 ≤ 64) (hz : 0 ≤ z ∧ z ≤ 64) (i : Nat) : 0 ≤ (l.set a z)[i]?.getD 0 ∧ (l.set a z)[i]?.getD 0 ≤ 64 := by
  by_cases ha : a = i
  · subst ha
    by_cases hl : a < l.length
    · rw [List.getElem?_set_self hl]; exact hz
    · rw [List.getElem?_eq_none (by simp; omega)]; simp
  · rw [List.getElem?_set_ne ha]; exact h i
theorem csOk_step {st : List Int × List Int × List Bool} (h : csOk st) (c : Int × Int) : csOk (csStep st c) := by
  unfold csStep
  split
  · exact fun i => set_ok h (h _) i
  · exact h
theorem csOk_fold {st : List Int × List Int × List Bool} (h : csOk st) (T : List (Int × Int)) : csOk (T.foldl csStep st) := by
  induction T generalizing st with
  | nil => exact h
  | cons c T ih => exact ih (csOk_step h c)
theorem csOk_in (zs : List Int) (K : List Bool) (n k : Nat) (hk : k ≤ 64) : csOk (csIn zs K n k) := by
  induction k with
  | zero =>
    intro i
    simp only [csIn]
    rw [List.getElem?_replicate]
    split <;> simp
  | succ k ih =>
    rw [csIn]
    split
    · exact fun i => set_ok (ih (by omega)) (by omega) i
    · exact ih (by omega)
set_option maxRecDepth 100000 in
set_option maxHeartbeats 6400000 in
theorem FnCompactionSteps_any (A : Option Addr) (bs : List Nat) (c : Nat) (w : World) (hr : Reads w w.heap.size 1 A bs.length (byts bs)) (hm : bs.length ≤ maxLen) (hbb : ∀ b ∈ bs, b ≤ 255) :
    Calls Try.prog 4 #[.slice A bs.length c] w fun e w' => e = .returned (.bool true) ∧ Below w.heap.size w w' := by
  have HVB := Lib.hid (fun w => vBig_any A bs.length c w hm)
  by_cases hbig : 65536 < bs.length
  case pos =>
    have HB := Lib.hid (show decide (65536 < bs.length) = true by simpa using hbig)
    clear hbig
    go_enter Try.func4, Try.ntmps4
    go_wp2_with (go_at_call 9; refine (HVB.out _).mono ?_; rintro e w' ⟨rfl, rfl⟩; rw [HB.out])
    go_ret
    exact ⟨rfl, Below.refl _ _⟩
  have hsm : bs.length ≤ 65536 := by omega
  have HB := Lib.hid (show decide (65536 < bs.length) = false by simpa using hbig)
  clear hbig
  obtain ⟨i0, hi, hz0, hz1, hz2⟩ := info_parts (show (Try.prog.info? 3).map (fun i => (i.zero, i.size, i.bytes)) = some (some (.int .i64 0), 1, 8) by kernel_rfl)
  obtain ⟨i1, hj, hy0, hy1, hy2⟩ := info_parts (show (Try.prog.info? 4).map (fun i => (i.zero, i.size, i.bytes)) = some (some (.bool false), 1, 1) by kernel_rfl)
  have HD := Lib.hid (DrawObliviousCompact_any A bs c w hr hbb hsm)
  clear hr hbb hsm
  go_enter Try.func4, Try.ntmps4
  go_wp2_with (go_at_call 9; refine (HVB.out _).mono ?_; rintro e w' ⟨rfl, rfl⟩; rw [HB.out])
  refine HD.out.mono ?_
  rintro e w1 ⟨v, u, zs, ks, rfl, oZ, oK, hl1, hl2, hsm, hb1⟩
  obtain ⟨AZ, CZ, rfl⟩ := own_slice oZ
  obtain ⟨AK, CK, rfl⟩ := own_slice oK
  clear hsm
  go_wp2_with fail
  refine (ObliviousCompact_any AZ zs CZ AK ks CK _ (Reads.of_own oZ) (by omega) (Reads.of_own oK) (by omega)).mono ?_
  rintro e w2 ⟨A1, c1, A2, c2, rfl, oS, oT, b2⟩
  have oZ2 := own_below oZ b2 (Nat.le_refl _)
  have oK2 := own_below oK b2 (Nat.le_refl _)
  have hB2 := hb1.trans (b2.mono hb1.size)
  clear oZ oK hb1 b2
  go_wp2_with fail
  refine (sObliviousCompact_any AZ zs CZ AK ks CK _ (Reads.of_own oZ2) (by omega) (Reads.of_own oK2) (by omega)).mono ?_
  rintro e w3 ⟨A3, c3, A4, c4, rfl, -, -, b3⟩
  have oZ3 := own_below oZ2 b3 (Nat.le_refl _)
  have oK3 := own_below oK2 b3 (Nat.le_refl _)
  have oS3 := own_below oS b3 (Nat.le_refl _)
  have oT3 := own_below oT b3 (Nat.le_refl _)
  have hB3 := hB2.trans (b3.mono hB2.size)
  clear oZ2 oK2 oS oT hB2 b3
  by_cases hok : ocOk zs ks = true
  case neg =>
    have e0 : ocOk zs ks = false := by simpa using hok
    have e1 : ocV zs ks = [] := by rw [ocV, if_neg hok]
    have e2 : ocT zs ks = [] := by rw [ocT, if_neg hok]
    rw [e0, e1, e2]
    clear e0 e1 e2 hok oS3 oT3 oZ3 oK3
    go_wp2_with fail
    go_ret
    exact ⟨rfl, hB3⟩
  obtain ⟨h64, hkl⟩ := ocOk_iff hok
  have e1 : ocV zs ks = padTo zs.length (picked zs ks zs.length) := by rw [ocV, if_pos hok]
  have e2 : ocT zs ks = ctrace (zs.length : Int) := by rw [ocT, if_pos hok]
  have hV : (ocV zs ks).length ≤ 64 := (oc_len zs ks).1
  have hT : (ocT zs ks).length ≤ 448 := (oc_len zs ks).2
  have HLAW := Lib.hid (cs_law zs ks hkl h64)
  rw [← e1, ← e2] at HLAW
  have HTM : Hid (∀ c ∈ ocT zs ks, 0 ≤ c.1 ∧ c.1 < c.2 ∧ c.2 < (zs.length : Int)) := Lib.hid (by rw [e2]; exact ctrace_mem _ 7 1 (by omega))
  have HOKF := Lib.hid (csOk_in zs ks zs.length zs.length h64)
  have HKL := Lib.hid hkl
  rw [hok]
  clear hok e1 e2 hkl
  generalize ocV zs ks = V at *
  generalize ocT zs ks = T at *
  have hmk : ∀ w0 : World, (Instr.makeSlice 24 (.int .i64 zs.length) (.int .i64 zs.length)).run Try.prog w0 = .ok (.slice (some ⟨w0.heap.size, 0, none⟩) zs.length zs.length) (w0.alloc (.cells (madeCells #[.int .i64 0] zs.length) 3)) := by
    intro w0
    have := run_make (P := Try.prog) w0 24 3 i0 (.int .i64 0) Try.underlying24 hi hz0 .i64 .i64 zs.length zs.length (by omega) (by omega) (by rw [hz2]; omega) (by omega)
    simpa [Value.cells, hz1] using this
  have hmb : ∀ w0 : World, (Instr.makeSlice 26 (.int .i64 zs.length) (.int .i64 zs.length)).run Try.prog w0 = .ok (.slice (some ⟨w0.heap.size, 0, none⟩) zs.length zs.length) (w0.alloc (.cells (madeCells #[.bool false] zs.length) 4)) := by
    intro w0
    have := run_make (P := Try.prog) w0 26 4 i1 (.bool false) Try.underlying26 hj hy0 .i64 .i64 zs.length zs.length (by omega) (by omega) (by rw [hy2]; omega) (by omega)
    simpa [Value.cells, hy1] using this
  have HST : CsW (((w3.alloc (.cells (madeCells #[.int .i64 0] zs.length) 3)).alloc (.cells (madeCells #[.int .i64 0] zs.length) 3)).alloc (.cells (madeCells #[.bool false] zs.length) 4)) w3.heap.size w3.heap.size (w3.heap.size + 1) (w3.heap.size + 1 + 1) zs.length (csIn zs ks zs.length 0) := by
    have fN := own_full (base := w3.heap.size) (size := 1) (e := 3) w3 (madeCells #[.int .i64 0] zs.length) zs.length (Nat.le_refl _) (by unfold maxLen; omega) (by simp [madeCells])
    have fF := own_full (base := w3.heap.size) (size := 1) (e := 3) (w3.alloc (.cells (madeCells #[.int .i64 0] zs.length) 3)) (madeCells #[.int .i64 0] zs.length) zs.length (by simp) (by unfold maxLen; omega) (by simp [madeCells])
    have fB := own_full (base := w3.heap.size) (size := 1) (e := 4) ((w3.alloc (.cells (madeCells #[.int .i64 0] zs.length) 3)).alloc (.cells (madeCells #[.int .i64 0] zs.length) 3)) (madeCells #[.bool false] zs.length) zs.length (by simp; omega) (by unfold maxLen; omega) (by simp [madeCells])
    rw [toList_madeCells_one] at fN fF fB
    refine ⟨?_, ?_, ?_, by simp [csIn], by simp [csIn], by simp [csIn], by omega⟩
    · simpa [csIn, ints] using (fN.alloc (.cells (madeCells #[.int .i64 0] zs.length) 3)).alloc (.cells (madeCells #[.bool false] zs.length) 4)
    · simpa [csIn, ints] using fF.alloc (.cells (madeCells #[.bool false] zs.length) 4)
    · simpa [csIn, bools] using fB
  have hB0 := alloc_ (alloc_ (alloc_ (Below.refl w3.heap.size w3) (.cells (madeCells #[.int .i64 0] zs.length) 3)) (.cells (madeCells #[.int .i64 0] zs.length) 3)) (.cells (madeCells #[.bool false] zs.length) 4)
  have hgN : w3.heap.size ≤ w3.heap.size := Nat.le_refl _
  have hgF : w3.heap.size ≤ w3.heap.size + 1 := by omega
  have hgB : w3.heap.size ≤ w3.heap.size + 1 + 1 := by omega
  go_wp2_with fail
  generalize ((w3.alloc (.cells (madeCells #[.int .i64 0] zs.length) 3)).alloc (.cells (madeCells #[.int .i64 0] zs.length) 3)).alloc (.cells (madeCells #[.bool false] zs.length) 4) = wI at *
  generalize w3.heap.size + 1 + 1 = gB at *
  generalize w3.heap.size + 1 = gF at *
  go_loopw [14, 15] (fun vg vi wr => ∃ (k : Nat) (st : List Int × List Int × List Bool) (gg : Nat), k ≤ zs.length ∧ vi = .int .i64 (k : Nat) ∧ vg = .int .i64 (gg : Nat) ∧ Hid (gg = k - (csFw ks k).length) ∧ Hid (st = csIn zs ks zs.length k) ∧ CsW wr w3.heap.size w3.heap.size gF gB zs.length st ∧ Below w3.heap.size w3 wr) (fun _ vi _ => zs.length - (intOf vi).toNat)
  case atStart => exact ⟨0, _, 0, by omega, rfl, rfl, Lib.hid rfl, Lib.hid rfl, HST, hB0⟩
  case round =>
    clear HST hB0
    obtain ⟨k, st, gg, hk, rfl, rfl, HG, HS, hC, hb⟩ := hrel
    by_cases hlt : k < zs.length
    · have kI : (k : Int) < zs.length := by omega
      have hggk : gg ≤ k := by rw [HG.out]; omega
      have hkk : k < ks.length := by rw [HKL.out]; exact hlt
      have kK : (k : Int) < ks.length := by omega
      have oZr := own_below oZ3 hb (Nat.le_refl _)
      have oKr := own_below oK3 hb (Nat.le_refl _)
      obtain ⟨gZ, cZ', eZ, -, -, -⟩ := own_some oZr (by omega)
      obtain ⟨gK, cK', eK, -, -, -⟩ := own_some oKr (by omega)
      cases eZ
      cases eK
      have cz := oZr.cellAt k (by omega)
      rw [ints_get hlt] at cz
      have ck := oKr.cellAt k (by omega)
      rw [bools_get hkk] at ck
      obtain ⟨x, hx⟩ : ∃ x, zs[k] = x := ⟨_, rfl⟩
      rw [hx] at cz
      have HX := Lib.hid hx
      obtain ⟨b, hbk⟩ : ∃ b, ks[k] = b := ⟨_, rfl⟩
      rw [hbk] at ck
      have hkg : ks[k]?.getD false = b := by rw [List.getElem?_eq_getElem hkk, hbk]; rfl
      have HBK := Lib.hid hkg
      clear hx hbk hkg oZr oKr
      cases b
      case true =>
        have HG2 := Lib.hid (show gg = (k + 1) - (csFw ks (k + 1)).length by rw [csFw, if_pos HBK.out, List.length_append]; have := HG.out; simp; omega)
        have HS2 := Lib.hid (show (st.1.set k x, st.2.1.set k (gg : Int), st.2.2.set k true) = csIn zs ks zs.length (k + 1) by rw [csIn, if_pos HBK.out, ← HS.out, ← HG.out, List.getElem?_eq_getElem hlt, HX.out]; rfl)
        have cN := hC.cN k hlt
        have fN := hC.rN.frozenAt k
        go_upto_region 17 with fail
        have hC1 := hC.setN k x
        have hb1 := hb.setCell (p := ⟨w3.heap.size, k, none⟩) hgN (.int .i64 x)
        clear cN fN cz ck hC hb
        generalize wr.setCell ⟨w3.heap.size, k, none⟩ (.int .i64 x) = wa at *
        have cF := hC1.cF k hlt
        have fF := hC1.rF.frozenAt k
        go_upto_region 18 with fail
        have hC2 := hC1.setF k (gg : Int)
        have hb2 := hb1.setCell (p := ⟨gF, k, none⟩) hgF (.int .i64 (gg : Int))
        clear cF fF hC1 hb1
        generalize wa.setCell ⟨gF, k, none⟩ (.int .i64 (gg : Int)) = wb at *
        have cB := hC2.cB k hlt
        have fB := hC2.rB.frozenAt k
        go_wp2_with fail
        have hC3 := hC2.setB k true
        have hb3 := hb2.setCell (p := ⟨gB, k, none⟩) hgB (.bool true)
        clear cB fB hC2 hb2
        go_roundw
        case rel => exact ⟨k + 1, _, gg, by omega, by go_num, rfl, HG2, HS2, hC3, hb3⟩
        case measure => simp [intOf]; omega
      case false =>
        have hbf : ¬ (ks[k]?.getD false = true) := by rw [HBK.out]; simp
        have HG2 := Lib.hid (show gg + 1 = (k + 1) - (csFw ks (k + 1)).length by rw [csFw, if_neg hbf]; have := HG.out; have := fw_len ks k; omega)
        have HS2 := Lib.hid (show st = csIn zs ks zs.length (k + 1) by rw [csIn, if_neg hbf]; exact HS.out)
        clear hbf
        go_wp2_with fail
        go_roundw
        case rel => exact ⟨k + 1, st, gg + 1, by omega, by go_num, by go_num, HG2, HS2, hC, hb⟩
        case measure => simp [intOf]; omega
    · obtain rfl : k = zs.length := by omega
      have kI : ¬ (zs.length : Int) < (zs.length : Int) := by omega
      go_wp2_with fail
      go_loopw [16] (fun vi wr => ∃ (k : Nat) (s2 : List Int × List Int × List Bool), k ≤ T.length ∧ vi = .int .i64 (k : Nat) ∧ Hid (s2 = (T.take k).foldl csStep st) ∧ Hid (csOk s2) ∧ CsW wr w3.heap.size w3.heap.size gF gB zs.length s2 ∧ Below w3.heap.size w3 wr) (fun vi _ => T.length - (intOf vi).toNat)
      case atStart => exact ⟨0, st, by omega, rfl, Lib.hid rfl, Lib.hid (by rw [HS.out]; exact HOKF.out), hC, hb⟩
      case round =>
        clear hC hb
        obtain ⟨k, s2, hk, rfl, HF, HO, hC, hb⟩ := hrel
        by_cases hlt : k < T.length
        · have kI : (k : Int) < T.length := by omega
          have oTr := own_below oT3 hb (Nat.le_refl _)
          obtain ⟨ad, eT, had, hc0, hc1⟩ := (Reads.of_own oTr).cmp hlt
          cases eT
          have hmem := HTM.out T[k] (List.getElem_mem hlt)
          have HFS := Lib.hid (show (T.take (k + 1)).foldl csStep st = csStep s2 T[k] by rw [List.take_succ_eq_append_getElem hlt, List.foldl_append, HF.out]; rfl)
          obtain ⟨a, b, hab⟩ : ∃ a b : Nat, T[k] = ((a : Int), (b : Int)) := ⟨T[k].1.toNat, T[k].2.toNat, by ext <;> simp <;> omega⟩
          rw [hab] at hc0 hc1 hmem
          simp only at hc0 hc1 hmem
          have HAB := Lib.hid hab
          clear hab oTr
          have n1 : ¬ (a : Int) < 0 := by omega
          have n2 : ¬ (b : Int) ≥ zs.length := by omega
          have n2' : ¬ (zs.length : Int) ≤ b := by omega
          have n3 : ¬ (a : Int) ≥ b := by omega
          have n3' : ¬ (b : Int) ≤ a := by omega
          go_upto_region 23 with fail
          go_quiet (fail)
          go_upto_region 26 with fail
          have hCq := hC.below (below_drewN (Below.refl _ _) nq)
          have hbq := below_drewN hb nq
          clear hC hb hc0 hc1 n1 n2 n2' n3 n3'
          generalize wr.drewN nq = wq at *
          have cB := hCq.cB b (by omega)
          have cF := hCq.cF b (by omega)
          have bI : (b : Int) < zs.length := by omega
          have aI : (a : Int) < zs.length := by omega
          have hxb := HO.out b
          have HNO := Lib.hid (csStep_no s2 a b)
          have HYES := Lib.hid (csStep_yes s2 a b)
          obtain ⟨fb, hfb⟩ : ∃ fb, s2.2.2[b]?.getD false = fb := ⟨_, rfl⟩
          obtain ⟨x, hx⟩ : ∃ x, s2.2.1[b]?.getD 0 = x := ⟨_, rfl⟩
          obtain ⟨y, hy⟩ : ∃ y, s2.1[b]?.getD 0 = y := ⟨_, rfl⟩
          rw [hfb] at cB
          rw [hx] at cF hxb
          rw [hfb, hx] at HNO
          rw [hfb, hx, hy] at HYES
          have HY := Lib.hid hy
          have HXF := Lib.hid hx
          clear hfb hx hy
          cases fb
          case false =>
            have HS3 := Lib.hid (show s2 = (T.take (k + 1)).foldl csStep st by rw [HFS.out, HAB.out, HNO.out (by simp)])
            go_wp2_with fail
            go_roundw
            case rel => exact ⟨k + 1, s2, by omega, by go_num, HS3, HO, hCq, hbq⟩
            case measure => simp [intOf]; omega
          case true =>
            have hd0 : ((b : Int) - (a : Int)) ≠ 0 := by omega
            have hd1 : ((b : Int) - (a : Int) == 0) = false := by rw [beq_eq_false_iff_ne]; omega
            go_upto_if 139 with fail
            have hq0 : 0 ≤ x / ((b : Int) - (a : Int)) := Int.ediv_nonneg hxb.1 (by omega)
            rw [Int.tmod_eq_emod_of_nonneg hq0]
            have HX := Lib.hid hxb
            clear hd0 hd1 hq0 hxb
            by_cases hbit : x / ((b : Int) - (a : Int)) % 2 = 1
            · have e1 : (x / ((b : Int) - (a : Int)) % 2 == 1) = true := by rw [beq_iff_eq]; exact hbit
              have HS3 := Lib.hid (show ((s2.1.set a y).set b 0, s2.2.1.set a x, (s2.2.2.set a true).set b false) = (T.take (k + 1)).foldl csStep st by rw [HFS.out, HAB.out, HYES.out ⟨rfl, hbit⟩])
              have HO3 : Hid (csOk ((s2.1.set a y).set b 0, s2.2.1.set a x, (s2.2.2.set a true).set b false)) := Lib.hid (by
                have h := csOk_step HO.out ((a : Int), (b : Int))
                rwa [HYES.out ⟨rfl, hbit⟩] at h)
              clear hbit cB cF
              rw [e1]
              clear e1
              have cL : wq.cell? ⟨w3.heap.size, b, none⟩ = some (.int .i64 y) := by have h := hCq.cN b (by omega); rwa [HY.out] at h
              have cA := hCq.cN a (by omega)
              have fA := hCq.rN.frozenAt a
              go_upto_region 28 with fail
              have hC1 := hCq.setN a y
              have hb1 := hbq.setCell (p := ⟨w3.heap.size, a, none⟩) hgN (.int .i64 y)
              clear cA fA hCq hbq cL
              generalize wq.setCell ⟨w3.heap.size, a, none⟩ (.int .i64 y) = wa at *
              have cL : wa.cell? ⟨gF, b, none⟩ = some (.int .i64 x) := by have h := hC1.cF b (by omega); simp only at h; rwa [HXF.out] at h
              have cA := hC1.cF a (by omega)
              have fA := hC1.rF.frozenAt a
              go_upto_region 29 with fail
              have hC2 := hC1.setF a x
              have hb2 := hb1.setCell (p := ⟨gF, a, none⟩) hgF (.int .i64 x)
              clear cA fA hC1 hb1 cL
              generalize wa.setCell ⟨gF, a, none⟩ (.int .i64 x) = wb at *
              have cA := hC2.cB a (by omega)
              have fA := hC2.rB.frozenAt a
              go_upto_region 30 with fail
              have hC3 := hC2.setB a true
              have hb3 := hb2.setCell (p := ⟨gB, a, none⟩) hgB (.bool true)
              clear cA fA hC2 hb2
              generalize wb.setCell ⟨gB, a, none⟩ (.bool true) = wc at *
              have cA := hC3.cN b (by omega)
              have fA := hC3.rN.frozenAt b
              go_upto_region 31 with fail
              have hC4 := hC3.setN b 0
              have hb4 := hb3.setCell (p := ⟨w3.heap.size, b, none⟩) hgN (.int .i64 0)
              clear cA fA hC3 hb3
              generalize wc.setCell ⟨w3.heap.size, b, none⟩ (.int .i64 0) = wd at *
              have cA := hC4.cB b (by omega)
              have fA := hC4.rB.frozenAt b
              go_wp2_with fail
              have hC5 := hC4.setB b false
              have hb5 := hb4.setCell (p := ⟨gB, b, none⟩) hgB (.bool false)
              clear cA fA hC4 hb4
              go_roundw
              case rel => exact ⟨k + 1, _, by omega, by go_num, HS3, HO3, hC5, hb5⟩
              case measure => simp [intOf]; omega
            · have e1 : (x / ((b : Int) - (a : Int)) % 2 == 1) = false := by rw [beq_eq_false_iff_ne]; exact hbit
              have HS3 := Lib.hid (show s2 = (T.take (k + 1)).foldl csStep st by rw [HFS.out, HAB.out, HNO.out (fun h => hbit h.2)])
              clear hbit
              rw [e1]
              go_wp2_with fail
              go_roundw
              case rel => exact ⟨k + 1, s2, by omega, by go_num, HS3, HO, hCq, hbq⟩
              case measure => simp [intOf]; omega
        · obtain rfl : k = T.length := by omega
          have kI : ¬ (T.length : Int) < (T.length : Int) := by omega
          have HEND := Lib.hid (show s2.1 = V by rw [HF.out, List.take_of_length_le (Nat.le_refl _), HS.out]; exact HLAW.out)
          have oSr := own_below oS3 hb (Nat.le_refl _)
          have hv := vInts_any (some ⟨w3.heap.size, 0, none⟩) A1 s2.1 V zs.length c1 wr (by rw [hC.l1]; exact Reads.of_own hC.rN) (Reads.of_own oSr) (by rw [hC.l1]; omega) (by omega)
          rw [hC.l1, decide_eq_true HEND.out] at hv
          have HV := Lib.hid hv
          clear hv
          go_wp2_with fail
          refine HV.out.mono ?_
          rintro e w7 ⟨rfl, n7, rfl⟩
          go_wp2_with fail
          go_ret
          exact ⟨rfl, hB3.trans ((below_drewN hb n7).mono hB3.size)⟩
end Go.Proofs.Ytphcfjdhichfkaa
