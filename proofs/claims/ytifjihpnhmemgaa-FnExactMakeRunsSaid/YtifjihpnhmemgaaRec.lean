/- Contracts of the helpers on lists of records (printed by gen_rec.py from those on comparators). -/
import Derived.Test.YtifjihpnhmemgaaCmp
import Derived.Test.YtifjihpnhmemgaaNetTo
namespace Go.Proofs.Ytifjihpnhmemgaa
open Go.RowKit
set_option linter.unusedVariables false
theorem eqRecord_any (a b : Int × Int) (w : World) :
    Calls Try.prog 26 #[.agg #[.int .i64 a.1, .int .i64 a.2], .agg #[.int .i64 b.1, .int .i64 b.2]] w fun e w' => e = .returned (.bool (decide (a = b))) ∧ Below w.heap.size w w' := by
  cases h1 : a.1 != b.1
  · have h1' : (a.1 == b.1) = true := by simpa [bne] using h1
    cases h2 : a.2 != b.2
    · have h2' : (a.2 == b.2) = true := by simpa [bne] using h2
      go_enter Try.func26, Try.ntmps26
      go_wp2
      go_ret
      exact ⟨retb (by symm; simp at h1' h2'; simp [Prod.ext_iff, h1', h2']), by go_grown⟩
    · have h2' : (a.2 == b.2) = false := by simpa [bne] using h2
      go_enter Try.func26, Try.ntmps26
      go_wp2
      go_ret
      exact ⟨retb (by symm; simp at h1' h2'; simp [Prod.ext_iff, h1', h2']), by go_grown⟩
  · have h1' : (a.1 == b.1) = false := by simpa [bne] using h1
    go_enter Try.func26, Try.ntmps26
    go_wp2
    go_ret
    exact ⟨retb (by symm; simp at h1'; simp [Prod.ext_iff, h1']), by go_grown⟩
set_option maxHeartbeats 400000 in
theorem eqRecordS_any (A B : Option Addr) (xs ys : List (Int × Int)) (c d : Nat) (w : World) (hx : Reads w w.heap.size 2 A xs.length (cmps xs)) (hy : Reads w w.heap.size 2 B ys.length (cmps ys))
    (hl : xs.length ≤ 1099511627776) (hl' : ys.length ≤ 1099511627776) :
    Calls Try.prog 9 #[.slice A xs.length c, .slice B ys.length d] w fun e w' => e = .returned (.bool (decide (xs = ys))) ∧ Below w.heap.size w w' := by
  by_cases hne : xs.length = ys.length
  case neg =>
    have hd : ((xs.length : Int) == (ys.length : Int)) = false := by simp; omega
    have hd' : ((xs.length : Int) != (ys.length : Int)) = true := by simp; omega
    go_enter Try.func9, Try.ntmps9
    go_wp2_with fail
    go_ret
    exact ⟨retb (by symm; simp; intro h; exact hne (by rw [h])), Below.refl _ _⟩
  have hd : ((xs.length : Int) == (ys.length : Int)) = true := by simp; omega
  have hd' : ((xs.length : Int) != (ys.length : Int)) = false := by simp; omega
  have Hne := Lib.hid hne; clear hne
  go_enter Try.func9, Try.ntmps9
  go_wp2_with fail
  go_loopw [5] (fun i wr => ∃ k : Nat, k ≤ xs.length ∧ i = .int .i64 k ∧ Below w.heap.size w wr ∧ xs.take k = ys.take k) (fun i _ => xs.length - (intOf i).toNat)
  case atStart => exact ⟨0, by omega, rfl, Below.refl _ _, by simp⟩
  case round =>
    obtain ⟨k, hk, rfl, hb, heq⟩ := hrel
    have HE := Lib.hid heq; clear heq
    by_cases hlt : k < xs.length
    · have hlt' : k < ys.length := by have := Hne.out; omega
      obtain ⟨ad, rfl, had, hc0, hc1⟩ := (hx.below hb).cmp hlt
      obtain ⟨bd, rfl, hbd, hd0, hd1⟩ := (hy.below hb).cmp hlt'
      have hsz := hb.size
      have had1 : (ad.add (k * 2)).block < wr.heap.size := by rw [block_of_add]; omega
      have hbd1 : (bd.add (k * 2)).block < wr.heap.size := by rw [block_of_add]; omega
      go_wp2_with fail
      by_cases hv : xs[k] = ys[k]
      · have hde : decide (xs[k] = ys[k]) = true := by simpa using hv
        have HV := Lib.hid hv; clear hv
        go_region_held3 (fun w' => w'.cell? (ad.add (k * 2)) = some (.int .i64 xs[k].1) ∧ w'.cell? ⟨(ad.add (k * 2)).block, (ad.add (k * 2)).off + 1, none⟩ = some (.int .i64 xs[k].2) ∧ w'.cell? (bd.add (k * 2)) = some (.int .i64 ys[k].1) ∧ w'.cell? ⟨(bd.add (k * 2)).block, (bd.add (k * 2)).off + 1, none⟩ = some (.int .i64 ys[k].2)) (first | go_keep | (go_split_ands; refine ⟨?_, ?_, ?_, ?_⟩ <;> (rw [Below.cell hb1 (by simp; omega)]; assumption)))
          (first | (go_at_call 26; refine (eqRecord_any xs[k] ys[k] _).mono ?_; rintro e w1 ⟨rfl, hb1⟩))
        go_wp2_with fail
        go_roundw
        case rel => exact ⟨k + 1, by omega, by go_num, bthen hb (bthen (below_drewN (Below.refl _ _) 1) hb1), take_succ_eq HE.out hlt hlt' HV.out⟩
        case measure => simp [intOf]; omega
      · have hde : decide (xs[k] = ys[k]) = false := by simpa using hv
        have HV := Lib.hid hv; clear hv
        go_region_held3 (fun w' => w'.cell? (ad.add (k * 2)) = some (.int .i64 xs[k].1) ∧ w'.cell? ⟨(ad.add (k * 2)).block, (ad.add (k * 2)).off + 1, none⟩ = some (.int .i64 xs[k].2) ∧ w'.cell? (bd.add (k * 2)) = some (.int .i64 ys[k].1) ∧ w'.cell? ⟨(bd.add (k * 2)).block, (bd.add (k * 2)).off + 1, none⟩ = some (.int .i64 ys[k].2)) (first | go_keep | (go_split_ands; refine ⟨?_, ?_, ?_, ?_⟩ <;> (rw [Below.cell hb1 (by simp; omega)]; assumption)))
          (first | (go_at_call 26; refine (eqRecord_any xs[k] ys[k] _).mono ?_; rintro e w1 ⟨rfl, hb1⟩))
        go_wp2_with fail
        go_ret
        exact ⟨retb (by symm; simp only [decide_eq_false_iff_not]; intro h; exact HV.out (by simp [h])), bthen hb (bthen (below_drewN (Below.refl _ _) 1) hb1)⟩
    · go_wp2_with fail
      go_ret
      exact ⟨retb (by symm; simp only [decide_eq_true_eq]; have h := HE.out; have hk' := Hne.out; rwa [List.take_of_length_le (by omega), List.take_of_length_le (by omega)] at h), hb⟩
set_option maxRecDepth 100000 in
set_option maxHeartbeats 800000 in
theorem markRecordS_any (B : Nat) (A : Option Addr) (cs : List (Int × Int)) (c : Nat) (k0 : Int) (w : World) (hl : cs.length ≤ 1048576) (h0 : 0 ≤ k0) (h1 : k0 ≤ 1099511627776)
    (hown : w.ownsRow B 47 2 (.slice A cs.length c) cs.length (cmps cs)) :
    Calls Try.prog 12 #[.slice A cs.length c, .int .i64 k0] w fun e w' => e = .returned (.int .i64 (k0 + 2 * cs.length)) ∧
      w'.ownsRow B 47 2 (.slice A cs.length c) cs.length (cmps (cmarks k0 cs.length)) ∧ w.grownBy w' (Value.slice A cs.length c).ownBlock := by
  go_enter Try.func12, Try.ntmps12
  go_wp2_with fail
  go_loopw [1, 5] (fun kv i wr => ∃ (k : Nat) (xs : List (Int × Int)), k ≤ cs.length ∧ i = .int .i64 k ∧ kv = .int .i64 (k0 + 2 * k) ∧ xs.length = cs.length ∧ xs.take k = (cmarks k0 cs.length).take k ∧
      wr.ownsRow B 47 2 (.slice A cs.length c) cs.length (cmps xs) ∧ w.grownBy wr (Value.slice A cs.length c).ownBlock) (fun _ i _ => cs.length - (intOf i).toNat)
  case atStart => exact ⟨0, cs, by omega, rfl, by simp, rfl, by simp, hown, World.grownBy.refl _ _⟩
  case round =>
    obtain ⟨k, xs, hk, rfl, rfl, hlx, hpre, hown, hg⟩ := hrel
    have HX := Lib.hid hlx; clear hlx
    have HP := Lib.hid hpre; clear hpre
    by_cases hlt : k < cs.length
    · obtain ⟨g, rfl, hBg, hgl⟩ := own_at hown (by omega)
      have hkx : k < xs.length := by rw [HX.out]; exact hlt
      have c1 := hown.cellAt (k * 2) (by omega)
      rw [(cmps_get hkx).1] at c1
      have c2 := hown.cellAt (k * 2 + 1) (by omega)
      rw [(cmps_get hkx).2] at c2
      have f1 := hown.frozenAt (k * 2)
      have f2 := hown.frozenAt (k * 2 + 1)
      have s1 := hown.stored (k * 2) (.int .i64 (k0 + 2 * k))
      rw [cmps_set1 _ _ _ hkx] at s1
      have s2 := s1.1.stored (k * 2 + 1) (.int .i64 (k0 + 2 * k + 1))
      rw [cmps_set2 _ _ _ (by simpa using hkx)] at s2
      have S1 := Lib.hid s1; clear s1
      have S2 := Lib.hid s2; clear s2
      have G := Lib.hid hg; clear hg
      go_wp2_with fail
      go_roundw
      case rel =>
        refine ⟨k + 1, _, by omega, by go_num, by go_num, ?_, ?_, S2.out.1, (G.out.trans S1.out.2).trans S2.out.2⟩
        · simp [HX.out]
        · simp only [List.getElem_set_self, List.set_set]
          have e := cmarks_get (k := k0) hlt
          rw [← e]
          exact set_take_succ (by rw [HX.out, cmarks_length]) HP.out (by simpa using hlt)
      case measure => simp [intOf]; omega
    · go_wp2_with fail
      go_ret
      refine ⟨reti (by omega), ?_, hg⟩
      rwa [take_all_eq (by rw [HX.out, cmarks_length]) (by rw [cmarks_length]; omega) HP.out] at hown
set_option maxRecDepth 100000 in
set_option maxHeartbeats 800000 in
theorem heldRecordS_any (A : Option Addr) (n c : Nat) (k0 : Int) (w : World) (hl : n ≤ 1048576) (h0 : 0 ≤ k0) (h1 : k0 ≤ 1099511627776)
    (hx : Reads w w.heap.size 2 A n (cmps (cmarks k0 n))) :
    Calls Try.prog 13 #[.slice A n c, .int .i64 k0] w fun e w' => e = .returned (.int .i64 (k0 + 2 * n)) ∧ w = w' := by
  go_enter Try.func13, Try.ntmps13
  go_wp2_with fail
  go_loop [1, 5] (fun kv i => ∃ (k : Nat), k ≤ n ∧ i = .int .i64 k ∧ kv = .int .i64 (k0 + 2 * k)) (fun _ i => n - (intOf i).toNat)
  case atStart => exact ⟨0, by omega, rfl, by simp⟩
  case round =>
    obtain ⟨k, hk, rfl, rfl⟩ := hrel
    by_cases hlt : k < n
    · have hx' : Reads w w.heap.size 2 A (cmarks k0 n).length (cmps (cmarks k0 n)) := by rw [cmarks_length]; exact hx
      obtain ⟨ad, rfl, -, c1, c2⟩ := hx'.cmp (k := k) (by simpa using hlt)
      rw [cmarks_get hlt] at c1 c2
      dsimp only at c1 c2
      clear hx'
      go_wp2_with fail
      go_round
      case rel => exact ⟨k + 1, by omega, by go_num, by go_num⟩
      case measure => simp [intOf]; omega
    · go_wp2_with fail
      go_ret
      exact ⟨reti (by omega), rfl⟩
theorem info_rec : (Try.prog.info? 47).map (fun i => (i.zero, i.size, i.bytes)) = some (some (.agg #[.int .i64 0, .int .i64 0]), 2, 16) := by kernel_rfl
theorem szRecordS_any (A : Option Addr) (n c : Nat) (left : Int) (w : World) (hn : n ≤ maxLen) (h0 : -1 ≤ left) (h1 : left ≤ 1048576) :
    Calls Try.prog 14 #[.slice A n c, .int .i64 left] w fun e w' => e = .returned (.int .i64 (szv n left)) ∧ w = w' := by
  unfold maxLen at hn
  by_cases h : left - n < 0
  all_goals
    go_enter Try.func14, Try.ntmps14
    go_wp2_with fail
    go_ret
    exact ⟨reti (by simp only [szv]; split <;> omega), rfl⟩
theorem toRecord_any (a b : Int) (w : World) :
    Calls Try.prog 28 #[.agg #[.int .i64 a, .int .i64 b]] w fun e w' => e = .returned (.agg #[.int .i64 a, .int .i64 b]) ∧ Below w.heap.size w w' := by
  go_enter Try.func28, Try.ntmps28
  go_wp2
  refine bodyPost_ret (v := .agg #[.int .i64 a, .int .i64 b]) (by simp [results, Try.results28, go_sem]) rfl ⟨rfl, ?_⟩
  go_grown
theorem made_cmps (n : Nat) : (madeCells #[.int .i64 0, .int .i64 0] (n * 2)).toList = cmps (List.replicate n (0, 0)) := by
  have hl : (cmps (List.replicate n ((0 : Int), (0 : Int)))) = List.replicate (n * 2) (Value.int .i64 0) := by
    induction n with
    | zero => rfl
    | succ n ih => rw [List.replicate_succ, cmps_cons, ih, show (n + 1) * 2 = n * 2 + 1 + 1 from by omega, List.replicate_succ, List.replicate_succ]
  rw [hl]
  apply List.ext_getElem?
  intro j
  by_cases hj : j < n * 2
  · have h2 : j % 2 = 0 ∨ j % 2 = 1 := by omega
    rcases h2 with h2 | h2 <;> simp [madeCells, hj, h2]
  · simp [madeCells, hj]
set_option maxRecDepth 100000 in
set_option maxHeartbeats 800000 in
theorem toRecordS_any (A : Option Addr) (cs : List (Int × Int)) (c : Nat) (w : World) (hx : Reads w w.heap.size 2 A cs.length (cmps cs)) (hl : cs.length ≤ 1048576) :
    Calls Try.prog 16 #[.slice A cs.length c] w fun e w' => ∃ g, e = .returned (.slice (some ⟨g, 0, none⟩) cs.length cs.length) ∧
      w'.ownsRow w.heap.size 47 2 (.slice (some ⟨g, 0, none⟩) cs.length cs.length) cs.length (cmps cs) ∧ Below w.heap.size w w' := by
  have hm : ((cs.length : Int)).toNat = cs.length := by omega
  obtain ⟨i0, hi, hz0, hz1, hz2⟩ := info_parts info_rec
  obtain ⟨w1, hmk, hown, hgr⟩ := run_make_full (P := Try.prog) w w.heap.size 24 47 i0 _ 2 Try.underlying24 hi hz0 hz1 .i64 .i64 cs.length (by rw [hz2]; omega) (by unfold maxLen; omega) (Nat.le_refl _)
  have hb1 : Below w.heap.size w w1 := (Below.refl _ _).grown hgr (Nat.le_refl _) (by simp)
  rw [show (Value.agg #[.int .i64 0, .int .i64 0]).cells = #[.int .i64 0, .int .i64 0] from rfl, made_cmps] at hown
  go_enter Try.func16, Try.ntmps16
  go_wp2_with fail
  clear hmk
  go_loopw [4] (fun i wr => ∃ (k : Nat) (ys : List (Int × Int)), k ≤ cs.length ∧ i = .int .i64 k ∧ ys.length = cs.length ∧ ys.take k = cs.take k ∧
      wr.ownsRow w.heap.size 47 2 (.slice (some ⟨w.heap.size, 0, none⟩) cs.length cs.length) cs.length (cmps ys) ∧ Below w.heap.size w wr) (fun i _ => cs.length - (intOf i).toNat)
  case atStart => exact ⟨0, List.replicate cs.length (0, 0), by omega, rfl, by simp, by simp, hown, hb1⟩
  case round =>
    obtain ⟨k, ys, hk, rfl, hly, hpre, hown, hb⟩ := hrel
    have HP := Lib.hid hpre; clear hpre
    have HL := Lib.hid hly; clear hly
    by_cases hlt : k < cs.length
    · obtain ⟨ad, rfl, had, hc, hc'⟩ := (hx.below hb).cmp hlt
      have hky : k < ys.length := by rw [HL.out]; exact hlt
      go_wp2_with fail
      refine (toRecord_any _ _ _).mono ?_
      rintro e w2 ⟨rfl, hb2⟩
      have hown2 := own_below hown hb2 (Nat.le_refl _)
      have hc2 := hown2.cellAt (k * 2) (by omega)
      rw [(cmps_get hky).1] at hc2
      have hc3 := hown2.cellAt (k * 2 + 1) (by omega)
      rw [(cmps_get hky).2] at hc3
      have hf2 := hown2.frozenAt (k * 2)
      have hf3 := hown2.frozenAt (k * 2 + 1)
      have hb3 := hb.trans (hb2.mono hb.size)
      have s1 := hown2.stored (k * 2) (.int .i64 cs[k].1)
      rw [cmps_set1 _ _ _ hky] at s1
      have s2 := s1.1.stored (k * 2 + 1) (.int .i64 cs[k].2)
      rw [cmps_set2 _ _ _ (by simpa using hky)] at s2
      simp only [List.getElem_set_self, List.set_set] at s2
      have S1 := Lib.hid s1; clear s1
      have S2 := Lib.hid s2; clear s2
      go_wp2_with fail
      go_roundw
      case rel =>
        exact ⟨k + 1, ys.set k cs[k], by omega, by go_num, by simp [HL.out], set_take_succ HL.out HP.out hlt, S2.out.1, (hb3.grown S1.out.2 hb3.size (by simp)).grown S2.out.2 (by simpa [World.setCell] using hb3.size) (by simp)⟩
      case measure => simp [intOf]; omega
    · go_wp2_with fail
      go_ret
      exact ⟨w.heap.size, rfl, by rwa [take_all_eq HL.out (by omega) HP.out] at hown, hb⟩
theorem heldRecordS_b (A : Option Addr) (n c : Nat) (k0 : Int) (w : World) (hl : n ≤ 1048576) (h0 : 0 ≤ k0) (h1 : k0 ≤ 1099511627776)
    (hx : Reads w w.heap.size 2 A n (cmps (cmarks k0 n))) :
    Calls Try.prog 13 #[.slice A n c, .int .i64 k0] w fun e w' => e = .returned (.int .i64 (k0 + 2 * n)) ∧ Below w.heap.size w w' :=
  (heldRecordS_any A n c k0 w hl h0 h1 hx).mono fun e w' h => ⟨h.1, by rw [← h.2]; exact Below.refl _ _⟩
end Go.Proofs.Ytifjihpnhmemgaa
