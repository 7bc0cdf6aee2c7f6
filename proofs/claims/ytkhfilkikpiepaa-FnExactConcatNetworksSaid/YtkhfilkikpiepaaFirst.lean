/- FirstUnsorted: the functions that it calls, and the program's and the reference's function. -/
import Derived.Test.YtkhfilkikpiepaaBits
namespace Go.Proofs.Ytkhfilkikpiepaa
open Go.RowKit
set_option linter.unusedVariables false
theorem fu_neg (W : Nat) (cs : List (Int × Int)) (k : Nat) (hk : k < 2 ^ W) (h : ((List.range (2 ^ W)).take k).any (fuP W cs) = false) (hp : fuP W cs k = true) : fuL W cs = k := by
  unfold fuL
  exact idx_found (l := List.range (2 ^ W)) (by simpa using hk) h (by simpa using hp)
theorem fu_succ (W : Nat) (cs : List (Int × Int)) (k : Nat) (hk : k < 2 ^ W) (h : ((List.range (2 ^ W)).take k).any (fuP W cs) = false) (hp : fuP W cs k = false) : ((List.range (2 ^ W)).take (k + 1)).any (fuP W cs) = false :=
  any_take_succ (l := List.range (2 ^ W)) (by simpa using hk) h (by simpa using hp)
theorem fu_end (W : Nat) (cs : List (Int × Int)) (h : ((List.range (2 ^ W)).take (2 ^ W)).any (fuP W cs) = false) : fuL W cs = -1 :=
  idx_none (l := List.range (2 ^ W)) (by simp) h
theorem isChecked_any (W : Int) (A : Option Addr) (cs : List (Int × Int)) (c : Nat) (w : World) (hx : Reads w w.heap.size 2 A cs.length (cmps cs)) (hl : cs.length ≤ 1099511627776) :
    Calls Try.prog 43 #[.agg #[.int .i64 W, .slice A cs.length c]] w fun e w' => e = .returned (.bool (chkOk W cs)) ∧ Below w.heap.size w w' := by
  have hb0 : Below w.heap.size w (w.alloc (.cells #[.int .i64 W, .slice A cs.length c] 28)) := by go_grown
  cases h : netOk W cs
  all_goals
    go_enter Try.func43, Try.ntmps43
    go_wp2_with fail
    refine (IsValidNetwork_any W A cs c _ ((hx.below hb0).more hb0.size) hl).mono ?_
    rintro e w1 ⟨rfl, hb1⟩
    obtain ⟨B1, k1⟩ := step_box hb1
    obtain ⟨x0, x1⟩ := k1.two
    go_wp2_with fail
    go_ret
    exact ⟨retb (by simp [chkOk, h]), B1⟩
set_option maxHeartbeats 800000 in
theorem binary_any (m W : Nat) (w : World) (hm : m < 4096) (hW : W ≤ 12) :
    Calls Try.prog 45 #[.int .i64 m, .int .i64 W] w fun e w' => ∃ v, e = .returned v ∧ w'.ownsRow w.heap.size 3 1 v W (ints (binL m W)) ∧ Below w.heap.size w w' := by
  obtain ⟨i0, hi, hz0, hz1, hz2⟩ := info_parts (show (Try.prog.info? 3).map (fun i => (i.zero, i.size, i.bytes)) = some (some (.int .i64 0), 1, 8) by kernel_rfl)
  have ho1 := World.ownsRow_made (base := w.heap.size) (size := 1) (e := 3) w #[] 0 (Nat.le_refl _) (by simp) (by simp)
  have hb1 := alloc_ (Below.refl w.heap.size w) (.cells #[] 3)
  go_enter Try.func45, Try.ntmps45
  go_wp2_with fail
  go_loopw [5, 9] (fun o i wr => ∃ k : Nat, k ≤ W ∧ i = .int .i64 k ∧ Below w.heap.size w wr ∧ wr.ownsRow w.heap.size 3 1 o k (ints (binL m k))) (fun _ i _ => W - (intOf i).toNat)
  case atStart => exact ⟨0, by omega, rfl, hb1, ho1⟩
  case round =>
    clear ho1 hb1
    obtain ⟨k, hk, rfl, hb, hown⟩ := hrel
    by_cases hlt : k < W
    · have ea := and1_bit m k (by omega)
      have hsu := binL_succ m k
      have HS := Lib.hid hsu; clear hsu
      go_wp2_with (at_builtin; refine wpList_push _ rfl _ _ 39 rfl w.heap.size 3 i0 _ 1 8 Try.underlying39 hi hz0 hz1 hz2 rfl (by decide) u5 _ _ rfl hown #[.int .i64 (bitI m k)] rfl rfl (by simp [Value.oneCell']) (by omega) (by unfold maxLen; omega) hb.size ?_; intro g1 k1 w2 hown1 hg1 hb3 hat3)
      go_roundw
      case rel => exact ⟨k + 1, by omega, by go_num, hb.trans hb3, by rw [HS.out]; simpa [ints] using hown1⟩
      case measure => simp [intOf]; omega
    · obtain rfl : k = W := by omega
      go_wp2_with fail
      go_ret
      exact ⟨_, rfl, hown, hb⟩
theorem desc_found {l : List Int} {k : Nat} (hk : k + 1 < l.length) (h : (List.range k).any (fun i => decide ((l[i + 1]?.getD 0) < (l[i]?.getD 0))) = false) (hp : l[k + 1] < l[k]) : desc l = k := by
  unfold desc
  have ht : (List.range (l.length - 1)).take k = List.range k := by rw [List.take_range]; congr 1; omega
  have hr : k < (List.range (l.length - 1)).length := by simp; omega
  refine idx_found (l := List.range (l.length - 1)) hr (by rw [ht]; exact h) ?_
  simp [List.getElem?_eq_getElem hk, List.getElem?_eq_getElem (show k < l.length by omega), hp]
theorem desc_none {l : List Int} (h : (List.range (l.length - 1)).any (fun i => decide ((l[i + 1]?.getD 0) < (l[i]?.getD 0))) = false) : desc l = -1 := by
  unfold desc
  exact idx_none (k := l.length - 1) (by simp) (by rw [List.take_range, Nat.min_self]; exact h)
theorem desc_succ {l : List Int} {k : Nat} (hk : k + 1 < l.length) (h : (List.range k).any (fun i => decide ((l[i + 1]?.getD 0) < (l[i]?.getD 0))) = false) (hp : ¬ l[k + 1] < l[k]) :
    (List.range (k + 1)).any (fun i => decide ((l[i + 1]?.getD 0) < (l[i]?.getD 0))) = false := by
  rw [List.range_succ, List.any_append, h]
  simp [List.getElem?_eq_getElem hk, List.getElem?_eq_getElem (show k < l.length by omega)]
  omega
set_option maxHeartbeats 800000 in
theorem descent_any (A : Option Addr) (zs : List Int) (c : Nat) (w : World) (hx : Reads w w.heap.size 1 A zs.length (ints zs)) (hl : zs.length ≤ 1048576) :
    Calls Try.prog 60 #[.slice A zs.length c] w fun e w' => e = .returned (.int .i64 (desc zs)) ∧ ∃ n, w' = w.drewN n := by
  go_enter Try.func60, Try.ntmps60
  go_wp2_with fail
  go_loopw [3] (fun i wr => ∃ k n : Nat, k ≤ zs.length - 1 ∧ i = .int .i64 (k + 1) ∧ wr = w.drewN n ∧ (List.range k).any (fun i => decide ((zs[i + 1]?.getD 0) < (zs[i]?.getD 0))) = false) (fun i _ => zs.length - (intOf i).toNat)
  case atStart => exact ⟨0, 0, by omega, rfl, rfl, by simp⟩
  case round =>
    obtain ⟨k, n, hk, rfl, rfl, hn⟩ := hrel
    have HN := Lib.hid hn; clear hn
    by_cases hlt : k + 1 < zs.length
    · obtain ⟨ad, rfl, -, hc⟩ := hx.int (show k < zs.length by omega)
      obtain ⟨bd, hbd, -, hc1⟩ := hx.int hlt
      cases hbd
      rw [addr_succ] at hc1
      have ew : IntKind.i64.wrap (k : Int) = k := IntWalk.i64_in _ (by omega)
      have e0 : (0 : Int) ≤ (k : Int) + 1 := by omega
      have e1 : ((k : Int) + 1).toNat = k + 1 := by omega
      have i0 : (0 : Int) ≤ (k : Int) := by omega
      have i1 : (k : Int) < zs.length := by omega
      have i2 : (k : Int) + 1 < zs.length := by omega
      by_cases hp : zs[k + 1] < zs[k]
      · go_wp2_with fail
        go_quiet (fail)
        go_wp2_with fail
        go_ret
        exact ⟨reti (desc_found hlt HN.out hp).symm, n + nq, rfl⟩
      · go_wp2_with fail
        go_quiet (fail)
        go_wp2_with fail
        go_roundw
        case rel => exact ⟨k + 1, n + nq, by omega, by go_num, rfl, desc_succ hlt HN.out (by omega)⟩
        case measure => simp [intOf]; omega
    · go_wp2_with fail
      go_ret
      refine ⟨reti (desc_none ?_).symm, n, rfl⟩
      have := HN.out
      rwa [show zs.length - 1 = k from by omega]
theorem sorts_any (W : Int) (A : Option Addr) (cs : List (Int × Int)) (c : Nat) (D : Option Addr) (zs : List Int) (d : Nat) (w : World) (hx : Reads w w.heap.size 2 A cs.length (cmps cs)) (hok : netOk W cs = true) (hzl : zs.length = W.toNat)
    (hz : Reads w w.heap.size 1 D zs.length (ints zs)) (hl : zs.length ≤ 1048576) :
    Calls Try.prog 44 #[.agg #[.int .i64 W, .slice A cs.length c], .slice D zs.length d] w fun e w' => e = .returned (.bool (ascB (netRun cs zs))) ∧ Below w.heap.size w w' := by
  have hb0 : Below w.heap.size w (w.alloc (.cells #[.int .i64 W, .slice A cs.length c] 28)) := by go_grown
  have HL := Lib.hid hzl; clear hzl
  have hdn := desc_neg (netRun cs zs)
  have HD := Lib.hid hdn; clear hdn
  have hnl := netRun_len cs zs
  have HN := Lib.hid hnl; clear hnl
  go_enter Try.func44, Try.ntmps44
  go_wp2_with fail
  refine (copyInts_any D zs d _ ((hz.below hb0).more hb0.size) hl).mono ?_
  rintro e w1 ⟨v1, rfl, own1, hb1⟩
  obtain ⟨G, g, rfl⟩ := own_slice own1
  obtain ⟨B1, k1⟩ := step_box hb1
  obtain ⟨x0, x1⟩ := k1.two
  go_wp2_with fail
  refine (run_any w.heap.size W A cs c G zs g _ B1.size (hx.below B1) hok HL.out (own_base own1 (by simp))).mono ?_
  rintro e w2 ⟨rfl, own2, hb2⟩
  rw [← HN.out] at own2 ⊢
  go_wp2_with fail
  refine (descent_any G (netRun cs zs) g _ (Reads.of_own own2) (by rw [HN.out]; exact hl)).mono ?_
  rintro e w3 ⟨rfl, n3, rfl⟩
  go_wp2_with fail
  go_ret
  exact ⟨retb HD.out, below_drewN (B1.trans hb2) _⟩
theorem sorts_n (W : Int) (A : Option Addr) (cs : List (Int × Int)) (c : Nat) (D : Option Addr) (zs : List Int) (m d : Nat) (w : World) (hm : zs.length = m) (hx : Reads w w.heap.size 2 A cs.length (cmps cs)) (hok : netOk W cs = true) (hzl : m = W.toNat)
    (hz : Reads w w.heap.size 1 D m (ints zs)) (hl : m ≤ 1048576) :
    Calls Try.prog 44 #[.agg #[.int .i64 W, .slice A cs.length c], .slice D m d] w fun e w' => e = .returned (.bool (ascB (netRun cs zs))) ∧ Below w.heap.size w w' := by
  subst hm
  exact sorts_any W A cs c D zs d w hx hok hzl hz hl
set_option maxRecDepth 100000 in
set_option maxHeartbeats 800000 in
theorem FirstUnsorted_any (W : Int) (A : Option Addr) (cs : List (Int × Int)) (c : Nat) (w : World) (hx : Reads w w.heap.size 2 A cs.length (cmps cs)) (hl : cs.length ≤ 1099511627776) :
    Calls Try.prog 21 #[.agg #[.int .i64 W, .slice A cs.length c]] w fun e w' => e = .returned (.tuple #[.int .i64 (fuV W cs), .bool (chkOk W cs)]) ∧ Below w.heap.size w w' := by
  have hb0 : Below w.heap.size w (w.alloc (.cells #[.int .i64 W, .slice A cs.length c] 28)) := by go_grown
  cases hok : chkOk W cs
  · rw [show fuV W cs = 0 from by simp [fuV, hok]]
    go_enter Try.func21, Try.ntmps21
    go_wp2_with fail
    refine (isChecked_any W A cs c _ ((hx.below hb0).more hb0.size) hl).mono ?_
    rintro e w1 ⟨rfl, hb1⟩
    obtain ⟨B1, k1⟩ := step_box hb1
    obtain ⟨x0, x1⟩ := k1.two
    rw [hok]
    go_wp2_with fail
    go_ret2
    exact ⟨rfl, B1⟩
  · rw [show fuV W cs = fuL W.toNat cs from by simp [fuV, hok]]
    have hck := hok
    simp only [chkOk, Bool.and_eq_true, decide_eq_true_eq] at hck
    obtain ⟨hnet, hW12⟩ := hck
    have hnet' := hnet
    simp only [netOk, Bool.and_eq_true] at hnet'
    have ⟨hw1, hw2⟩ := inB_iff.1 hnet'.1
    clear hnet'
    obtain ⟨n, rfl⟩ := Int.eq_ofNat_of_zero_le (show 0 ≤ W by omega)
    rw [Int.toNat_natCast]
    have hn12 : n ≤ 12 := by omega
    have HN := Lib.hid hnet; clear hnet
    go_enter Try.func21, Try.ntmps21
    go_wp2_with fail
    refine (isChecked_any n A cs c _ ((hx.below hb0).more hb0.size) hl).mono ?_
    rintro e w1 ⟨rfl, hb1⟩
    obtain ⟨B1, k1⟩ := step_box hb1
    obtain ⟨x0, x1⟩ := k1.two
    rw [hok]
    clear hok
    obtain ⟨N, hN⟩ : ∃ N, N = 2 ^ n := ⟨_, rfl⟩
    have ew : wrap64 (2 ^ n) = (N : Int) := by rw [hN]; exact wrap_pow n (by omega)
    have hN4 : N ≤ 4096 := by rw [hN]; exact Nat.pow_le_pow_right (n := 2) (by omega) hn12
    have HN2 := Lib.hid hN; clear hN
    have EW := Lib.hid ew; clear ew
    go_wp2_with fail
    clear x0 x1
    go_loopw [11] (fun i wr => ∃ k : Nat, k ≤ N ∧ i = .int .i64 k ∧ ((List.range N).take k).any (fuP n cs) = false ∧ Below w.heap.size w wr ∧ Blk wr w.heap.size 28 #[.int .i64 n, .slice A cs.length c]) (fun i _ => N - (intOf i).toNat)
    case atStart => exact ⟨0, by omega, rfl, by simp, B1, k1⟩
    case round =>
      clear B1 k1 hb1 hb0
      obtain ⟨k, hk, rfl, hn, hb, hbx⟩ := hrel
      have HA := Lib.hid hn; clear hn
      obtain ⟨x0, x1⟩ := hbx.two
      have xl := hbx.lt
      by_cases hlt : k < N
      · have hd : (k : Int) < wrap64 (2 ^ n) := by rw [EW.out]; omega
        have hF : fuP n cs k = !ascB (netRun cs (binL k n)) := rfl
        have HF1 := Lib.hid hF; clear hF
        cases ht : ascB (netRun cs (binL k n))
        all_goals
          have HT := Lib.hid ht; clear ht
          go_wp2_with fail
          go_upto_region 6 with fail
          go_region_held3 (fun w' => w'.cell? ⟨w.heap.size, 0, none⟩ = some (.int .i64 n) ∧ w'.cell? ⟨w.heap.size, 1, none⟩ = some (.slice A cs.length c)) (first | go_keep | (go_split_ands; refine ⟨?_, ?_⟩ <;> (first | (rw [Below.cell bB (by simp; omega)]; assumption) | (rw [Below.cell bA (by simp; omega)]; assumption))))
            (first | (go_at_call 45; refine (binary_any k n _ (by omega) (by omega)).mono ?_; rintro e wA ⟨vA, rfl, oA, bA⟩; obtain ⟨G, g, rfl⟩ := own_slice oA; have lA := bA.size; simp only [World.size_drew] at lA) | (go_at_call 44; refine (sorts_n n A cs c G (binL k n) n g _ (by simp) (by exact (hx.below (bthen' hb (undrew bA))).more (bthen' hb (undrew bA)).size) HN.out (by simp) (by exact Reads.of_own oA) (by omega)).mono ?_; rintro e wB ⟨rfl, bB⟩; rw [HT.out]))
          clear x0 x1
          go_wp2_with fail
        · go_ret2
          have hh := HA.out
          rw [HN2.out] at hh
          exact ⟨ret_ib (fu_neg n cs k (by rw [← HN2.out]; exact hlt) hh (by rw [HF1.out, HT.out]; rfl)).symm rfl, bthen' (bthen' hb (undrew bA)) bB (by omega)⟩
        · go_roundw
          case rel =>
            have hh := HA.out
            rw [HN2.out] at hh
            have hbw := bthen' hb (undrew bA)
            refine ⟨k + 1, by omega, by go_num, ?_, bthen' hbw bB, (hbx.below_ (undrew bA)).below_ bB⟩
            rw [HN2.out]
            exact fu_succ n cs k (by rw [← HN2.out]; exact hlt) hh (by rw [HF1.out, HT.out]; rfl)
          case measure => simp [intOf]; omega
      · have hd : ¬ (k : Int) < wrap64 (2 ^ n) := by rw [EW.out]; omega
        go_wp2_with fail
        go_ret2
        have hh := HA.out
        rw [show k = N from by omega, HN2.out] at hh
        exact ⟨ret_ib (fu_end n cs hh).symm rfl, hb⟩
end Go.Proofs.Ytkhfilkikpiepaa
