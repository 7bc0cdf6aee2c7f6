/- Oblivious expansion: the program's and the reference's function. -/
import Derived.Test.YtphcfjdhichfkaaExp
import Derived.Deep.RegionWith
namespace Go.Proofs.Ytphcfjdhichfkaa
open Go.RowKit
set_option linter.unusedVariables false
def oeOk (zs ts : List Int) (n : Int) : Bool := vList zs && (inB n 0 64 && (decide (ts.length = zs.length) && tgOk ts n))
def oeFold (zs ts : List Int) (n : Int) (k : Nat) : List Int := (List.range k).foldl (fun out i => out.set (ts[i]?.getD 0).toNat (zs[i]?.getD 0)) (List.replicate n.toNat 0)
theorem oeFold_succ {zs ts : List Int} {n : Int} {k : Nat} (h1 : k < zs.length) (h2 : k < ts.length) : oeFold zs ts n (k + 1) = (oeFold zs ts n k).set ts[k].toNat zs[k] := by
  simp [oeFold, List.range_succ, h1, h2]
theorem oeFold_len (zs ts : List Int) (n : Int) (k : Nat) : (oeFold zs ts n k).length = n.toNat := by
  induction k with
  | zero => simp [oeFold]
  | succ k ih => simp only [oeFold, List.range_succ, List.foldl_append] at ih ⊢; simpa using ih
def oeV (zs ts : List Int) (n : Int) : List Int := if oeOk zs ts n then oeFold zs ts n zs.length else []
def oeT (zs ts : List Int) (n : Int) : List (Int × Int) := if oeOk zs ts n then (ctrace n).reverse else []
theorem oeOk_iff {zs ts : List Int} {n : Int} (h : oeOk zs ts n = true) : vList zs = true ∧ inB n 0 64 = true ∧ ts.length = zs.length ∧ tgOk ts n = true := by
  simpa [oeOk] using h
theorem tgOk_at {ts : List Int} {n : Int} (h : tgOk ts n = true) {k : Nat} (hk : k < ts.length) : 0 ≤ ts[k] ∧ ts[k] ≤ n - 1 := by
  have := List.all_eq_true.1 h k (List.mem_range.2 hk)
  simp only [tgAt, List.getElem?_eq_getElem hk, Option.getD_some, Bool.and_eq_true] at this
  exact inB_iff.1 this.1
theorem oe_len (zs ts : List Int) (n : Int) : (oeV zs ts n).length ≤ 64 ∧ (oeT zs ts n).length ≤ 448 := by
  unfold oeV oeT
  split
  · rename_i h
    have := inB_iff.1 (oeOk_iff h).2.1
    refine ⟨by rw [oeFold_len]; omega, ?_⟩
    rw [List.length_reverse]
    exact traceFrom_len n this.2 7 1 (by omega)
  · simp
set_option maxRecDepth 100000 in
set_option maxHeartbeats 1600000 in
theorem ObliviousExpand_any (A0 : Option Addr) (z0 : List Int) (c0 : Nat) (A1 : Option Addr) (z1 : List Int) (c1 : Nat) (n : Int) (w : World) (hx0 : Reads w w.heap.size 1 A0 z0.length (ints z0)) (hl0 : z0.length ≤ 1099511627776)
    (hx1 : Reads w w.heap.size 1 A1 z1.length (ints z1)) (hl1 : z1.length ≤ 1099511627776) (hw : -9223372036854775808 ≤ n ∧ n ≤ 9223372036854775807) :
    Calls Try.prog 16 #[.slice A0 z0.length c0, .slice A1 z1.length c1, .int .i64 n] w fun e w' => ∃ A c A' c', e = .returned (.tuple #[.slice A (oeV z0 z1 n).length c, .slice A' (oeT z0 z1 n).length c', .bool (oeOk z0 z1 n)]) ∧
      w'.ownsRow w.heap.size 3 1 (.slice A (oeV z0 z1 n).length c) (oeV z0 z1 n).length (ints (oeV z0 z1 n)) ∧
      w'.ownsRow w.heap.size 37 2 (.slice A' (oeT z0 z1 n).length c') (oeT z0 z1 n).length (cmps (oeT z0 z1 n)) ∧ Below w.heap.size w w' := by
  cases hok : oeOk z0 z1 n
  · rw [show oeV z0 z1 n = [] from by simp [oeV, hok], show oeT z0 z1 n = [] from by simp [oeT, hok]]
    have fin : ∀ w1, Below w.heap.size w w1 → ∃ A c A' c', Ending.returned (.tuple #[.slice none 0 0, .slice none 0 0, .bool false]) = Ending.returned (.tuple #[.slice A ([] : List Int).length c, .slice A' ([] : List (Int × Int)).length c', .bool false]) ∧
      w1.ownsRow w.heap.size 3 1 (.slice A ([] : List Int).length c) ([] : List Int).length (ints []) ∧ w1.ownsRow w.heap.size 37 2 (.slice A' ([] : List (Int × Int)).length c') ([] : List (Int × Int)).length (cmps []) ∧ Below w.heap.size w w1 :=
      fun w1 h => ⟨none, 0, none, 0, rfl, World.ownsRow_nil _ _ _ _, World.ownsRow_nil _ _ _ _, h⟩
    have FIN := Lib.hid fin; clear fin
    cases hv : vList z0
    · clear hok
      go_enter Try.func16, Try.ntmps16
      go_wp2_with (go_at_call 38; refine (IsValidList_any A0 z0 c0 _ hx0 hl0).mono ?_; rintro e w1 ⟨rfl, hb1⟩)
      exact bodyPost_ret (v := .tuple #[.slice none 0 0, .slice none 0 0, .bool false]) (by simp [results, Try.results16, go_sem]) rfl (FIN.out _ hb1)
    · cases hn : inB n 0 64
      · clear hok
        go_enter Try.func16, Try.ntmps16
        go_wp2_with (first | (go_at_call 38; refine (IsValidList_any A0 z0 c0 _ hx0 hl0).mono ?_; rintro e w1 ⟨rfl, hb1⟩) | (go_at_call 40; refine (in_any _ _ _ _).mono ?_; rintro e w' ⟨rfl, rfl⟩))
        exact bodyPost_ret (v := .tuple #[.slice none 0 0, .slice none 0 0, .bool false]) (by simp [results, Try.results16, go_sem]) rfl (FIN.out _ hb1)
      · have ⟨n0, n1⟩ := inB_iff.1 hn
        by_cases hle : z1.length = z0.length
        · have hd : ((z1.length : Int) != (z0.length : Int)) = false := by simp; omega
          have ht : tgOk z1 n = false := by simpa [oeOk, hv, hn, hle] using hok
          clear hok hle
          go_enter Try.func16, Try.ntmps16
          go_wp2_with (first | (go_at_call 38; refine (IsValidList_any A0 z0 c0 _ hx0 hl0).mono ?_; rintro e w1 ⟨rfl, hb1⟩) | (go_at_call 40; refine (in_any _ _ _ _).mono ?_; rintro e w' ⟨rfl, rfl⟩) | (go_at_call 41; refine (areTargets_any A1 z1 c1 n _ ((hx1.below hb1).more hb1.size) hl1 n0 n1).mono ?_; rintro e w' ⟨rfl, rfl⟩))
          exact bodyPost_ret (v := .tuple #[.slice none 0 0, .slice none 0 0, .bool false]) (by simp [results, Try.results16, go_sem]) rfl (FIN.out _ hb1)
        · have hd : ((z1.length : Int) != (z0.length : Int)) = true := by simp; omega
          clear hok
          have HLE := Lib.hid hle; clear hle
          go_enter Try.func16, Try.ntmps16
          go_wp2_with (first | (go_at_call 38; refine (IsValidList_any A0 z0 c0 _ hx0 hl0).mono ?_; rintro e w1 ⟨rfl, hb1⟩) | (go_at_call 40; refine (in_any _ _ _ _).mono ?_; rintro e w' ⟨rfl, rfl⟩))
          exact bodyPost_ret (v := .tuple #[.slice none 0 0, .slice none 0 0, .bool false]) (by simp [results, Try.results16, go_sem]) rfl (FIN.out _ hb1)
  · obtain ⟨hv, hn, hle, ht⟩ := oeOk_iff hok
    have ⟨n0, n1⟩ := inB_iff.1 hn
    have h64 := vList_len hv
    have hd : ((z1.length : Int) != (z0.length : Int)) = false := by simp; omega
    rw [show oeV z0 z1 n = oeFold z0 z1 n z0.length from by simp [oeV, hok], show oeT z0 z1 n = (ctrace n).reverse from by simp [oeT, hok]]
    clear hok
    have htl := traceFrom_len n n1 7 1 (by omega)
    have HTL := Lib.hid htl; clear htl
    obtain ⟨N, rfl⟩ := Int.eq_ofNat_of_zero_le n0
    have HL := Lib.hid hle; clear hle
    have hat := fun (k : Nat) (hk : k < z1.length) => tgOk_at ht hk
    have HT := Lib.hid hat; clear hat
    obtain ⟨i0, hi, hz0, hz1, hz2⟩ := info_parts info_int'
    have hmk : ∀ w0 : World, (Instr.makeSlice 24 (.int .i64 N) (.int .i64 N)).run Try.prog w0 = .ok (.slice (some ⟨w0.heap.size, 0, none⟩) N N) (w0.alloc (.cells (madeCells #[.int .i64 0] N) 3)) := by
      intro w0
      have := run_make (P := Try.prog) w0 24 3 i0 (.int .i64 0) Try.underlying24 hi hz0 .i64 .i64 N N (by omega) (by omega) (by rw [hz2]; omega) (by omega)
      simpa [Value.cells, hz1] using this
    go_enter Try.func16, Try.ntmps16
    go_wp2_with (first | (go_at_call 38; refine (IsValidList_any A0 z0 c0 _ hx0 hl0).mono ?_; rintro e w1 ⟨rfl, hb1⟩) | (go_at_call 40; refine (in_any _ _ _ _).mono ?_; rintro e w' ⟨rfl, rfl⟩) | (go_at_call 41; refine (areTargets_any A1 z1 c1 N _ ((hx1.below hb1).more hb1.size) hl1 n0 n1).mono ?_; rintro e w' ⟨rfl, rfl⟩))
    go_region_with (go_at_call 39; refine (compactionTrace_any N _ n0 n1).mono ?_; rintro e w4 ⟨v4, rfl, hown4, hb4⟩)
    · have hb4' := undrew hb4
      have hout0 : World.ownsRow (w4) w.heap.size 3 1 (.slice (some ⟨w'.heap.size, 0, none⟩) N N) N (ints (oeFold z0 z1 N 0)) := by
        have e0 : ints (oeFold z0 z1 N 0) = (madeCells #[.int .i64 0] N).toList := by rw [toList_madeCells_one]; simp [oeFold, ints]
        rw [e0]
        exact own_below (own_full (base := w.heap.size) w' (madeCells #[.int .i64 0] N) N hb1.size (by unfold maxLen; omega) (by simp [madeCells])) hb4' (Nat.le_refl _)
      have htr0 : World.ownsRow (w4) w.heap.size 37 2 v4 (ctrace N).length (cmps (ctrace N)) := own_base hown4 (by have := hb1.size; simp; omega)
      have hB0 : Below w.heap.size w (w4) := bthen (alloc_ hb1 _) hb4'
      clear hown4 hb4 hmk
      go_wp2_with fail
      go_loopw [40] (fun i wr => ∃ (k : Nat), k ≤ z0.length ∧ i = .int .i64 k ∧ Below w.heap.size w wr ∧ wr.ownsRow w.heap.size 3 1 (.slice (some ⟨w'.heap.size, 0, none⟩) N N) N (ints (oeFold z0 z1 N k)) ∧
          wr.ownsRow w.heap.size 37 2 v4 (ctrace N).length (cmps (ctrace N))) (fun i _ => z0.length - (intOf i).toNat)
      case atStart => exact ⟨0, by omega, rfl, hB0, by exact hout0, by exact htr0⟩
      case round =>
        clear hout0 htr0 hB0
        obtain ⟨k, hk, rfl, hb, hout, htr⟩ := hrel
        have hol := oeFold_len z0 z1 N k
        simp only [Int.toNat_natCast] at hol
        by_cases hlt : k < z0.length
        · have hlt1 : k < z1.length := by have := HL.out; omega
          obtain ⟨ad, rfl, had, hc⟩ := (hx0.below hb).int hlt
          obtain ⟨bd, rfl, hbd, hd1⟩ := (hx1.below hb).int hlt1
          have hk1 : (k : Int) < z1.length := by omega
          have hts := oeFold_succ (zs := z0) (ts := z1) (n := N) hlt hlt1
          have HTS := Lib.hid hts; clear hts
          obtain ⟨t0, t1⟩ := HT.out k hlt1
          obtain ⟨t, htt⟩ := Int.eq_ofNat_of_zero_le t0
          rw [htt] at hd1 t1
          clear t0
          have HTT := Lib.hid htt; clear htt
          have d0 := hout.cellAt t (by omega)
          rw [ints_get (by omega)] at d0
          generalize (oeFold z0 z1 N k)[t] = u0 at d0
          have f0 := hout.frozenAt t
          have s0 := hout.stored t (.int .i64 z0[k])
          rw [ints_set] at s0
          have S := Lib.hid s0; clear s0 hol
          go_wp2_with fail
          go_roundw
          case rel =>
            refine ⟨k + 1, by omega, by go_num, hb.grown S.out.2 hb.size (fun g hg => (own_lt hout g hg).1), ?_, World.ownsRow.kept htr S.out.2 (own_ne_type htr hout (by decide))⟩
            rw [HTS.out, HTT.out]
            exact S.out.1
          case measure => simp [intOf]; omega
        · have hks : k = z0.length := by omega
          have HKS := Lib.hid hks; clear hks hol
          obtain ⟨A4, c4, rfl⟩ := own_slice htr
          go_wp2_with (go_at_call 42; refine (reverseCmps_any w.heap.size A4 (ctrace N) c4 _ (by have := HTL.out; unfold ctrace; omega) htr).mono ?_; rintro e w5 ⟨rfl, hrev, hgr5⟩)
          have e1 : (ctrace N).length = (ctrace N).reverse.length := by simp
          have e2 : (oeFold z0 z1 N z0.length).length = N := by rw [oeFold_len]; simp
          have hout5 := World.ownsRow.kept hout hgr5 (own_ne_type hout htr (by decide))
          rw [HKS.out] at hout5
          refine bodyPost_ret (v := .tuple #[.slice (some ⟨w'.heap.size, 0, none⟩) N N, .slice A4 (ctrace N).length c4, .bool true]) (by simp [results, Try.results16, go_sem]) rfl ⟨some ⟨w'.heap.size, 0, none⟩, N, A4, c4, by rw [e2, ← e1], by rw [e2]; exact hout5, by rw [← e1]; exact hrev, hb.grown hgr5 hb.size (fun g hg => (own_lt htr g hg).1)⟩
    · have hbt := bthen hb1 (undrew hb4)
      have hout0 : World.ownsRow (w4.alloc (.cells (madeCells #[.int .i64 0] N) 3)) w.heap.size 3 1 (.slice (some ⟨w4.heap.size, 0, none⟩) N N) N (ints (oeFold z0 z1 N 0)) := by
        have e0 : ints (oeFold z0 z1 N 0) = (madeCells #[.int .i64 0] N).toList := by rw [toList_madeCells_one]; simp [oeFold, ints]
        rw [e0]
        exact own_full (base := w.heap.size) w4 (madeCells #[.int .i64 0] N) N hbt.size (by unfold maxLen; omega) (by simp [madeCells])
      have htr0 : World.ownsRow (w4.alloc (.cells (madeCells #[.int .i64 0] N) 3)) w.heap.size 37 2 v4 (ctrace N).length (cmps (ctrace N)) := (own_base hown4 (by have := hb1.size; simp; omega)).alloc _
      have hB0 : Below w.heap.size w (w4.alloc (.cells (madeCells #[.int .i64 0] N) 3)) := alloc_ hbt _
      clear hown4 hb4 hmk
      go_wp2_with fail
      go_loopw [40] (fun i wr => ∃ (k : Nat), k ≤ z0.length ∧ i = .int .i64 k ∧ Below w.heap.size w wr ∧ wr.ownsRow w.heap.size 3 1 (.slice (some ⟨w4.heap.size, 0, none⟩) N N) N (ints (oeFold z0 z1 N k)) ∧
          wr.ownsRow w.heap.size 37 2 v4 (ctrace N).length (cmps (ctrace N))) (fun i _ => z0.length - (intOf i).toNat)
      case atStart => exact ⟨0, by omega, rfl, hB0, by exact hout0, by exact htr0⟩
      case round =>
        clear hout0 htr0 hB0
        obtain ⟨k, hk, rfl, hb, hout, htr⟩ := hrel
        have hol := oeFold_len z0 z1 N k
        simp only [Int.toNat_natCast] at hol
        by_cases hlt : k < z0.length
        · have hlt1 : k < z1.length := by have := HL.out; omega
          obtain ⟨ad, rfl, had, hc⟩ := (hx0.below hb).int hlt
          obtain ⟨bd, rfl, hbd, hd1⟩ := (hx1.below hb).int hlt1
          have hk1 : (k : Int) < z1.length := by omega
          have hts := oeFold_succ (zs := z0) (ts := z1) (n := N) hlt hlt1
          have HTS := Lib.hid hts; clear hts
          obtain ⟨t0, t1⟩ := HT.out k hlt1
          obtain ⟨t, htt⟩ := Int.eq_ofNat_of_zero_le t0
          rw [htt] at hd1 t1
          clear t0
          have HTT := Lib.hid htt; clear htt
          have d0 := hout.cellAt t (by omega)
          rw [ints_get (by omega)] at d0
          generalize (oeFold z0 z1 N k)[t] = u0 at d0
          have f0 := hout.frozenAt t
          have s0 := hout.stored t (.int .i64 z0[k])
          rw [ints_set] at s0
          have S := Lib.hid s0; clear s0 hol
          go_wp2_with fail
          go_roundw
          case rel =>
            refine ⟨k + 1, by omega, by go_num, hb.grown S.out.2 hb.size (fun g hg => (own_lt hout g hg).1), ?_, World.ownsRow.kept htr S.out.2 (own_ne_type htr hout (by decide))⟩
            rw [HTS.out, HTT.out]
            exact S.out.1
          case measure => simp [intOf]; omega
        · have hks : k = z0.length := by omega
          have HKS := Lib.hid hks; clear hks hol
          obtain ⟨A4, c4, rfl⟩ := own_slice htr
          go_wp2_with (go_at_call 42; refine (reverseCmps_any w.heap.size A4 (ctrace N) c4 _ (by have := HTL.out; unfold ctrace; omega) htr).mono ?_; rintro e w5 ⟨rfl, hrev, hgr5⟩)
          have e1 : (ctrace N).length = (ctrace N).reverse.length := by simp
          have e2 : (oeFold z0 z1 N z0.length).length = N := by rw [oeFold_len]; simp
          have hout5 := World.ownsRow.kept hout hgr5 (own_ne_type hout htr (by decide))
          rw [HKS.out] at hout5
          refine bodyPost_ret (v := .tuple #[.slice (some ⟨w4.heap.size, 0, none⟩) N N, .slice A4 (ctrace N).length c4, .bool true]) (by simp [results, Try.results16, go_sem]) rfl ⟨some ⟨w4.heap.size, 0, none⟩, N, A4, c4, by rw [e2, ← e1], by rw [e2]; exact hout5, by rw [← e1]; exact hrev, hb.grown hgr5 hb.size (fun g hg => (own_lt htr g hg).1)⟩
end Go.Proofs.Ytphcfjdhichfkaa
