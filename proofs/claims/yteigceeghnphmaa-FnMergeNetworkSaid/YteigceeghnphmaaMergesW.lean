/- MergesSorted: inputs of zeros and ones in two ascending parts; the program's function. -/
import Derived.Test.YteigceeghnphmaaFirst
namespace Go.Proofs.Yteigceeghnphmaa
open Go.RowKit
set_option linter.unusedVariables false
/-- ones begin at i in the first part, at k in the second -/
def pB (a i k v : Nat) : Bool := (decide (i ≤ v) && decide (v < a)) || decide (k ≤ v)
def fillP (a W i k q : Nat) : List Int := (List.range W).map fun v => if (decide (v < q) && pB a i k v) = true then 1 else 0
@[simp] theorem fillP_len (a W i k q : Nat) : (fillP a W i k q).length = W := by simp [fillP]
theorem fillP_get {a W i k q v : Nat} (h : v < (fillP a W i k q).length) : (fillP a W i k q)[v] = if (decide (v < q) && pB a i k v) = true then 1 else 0 := by simp [fillP]
theorem fillP_zero (a W i k : Nat) : fillP a W i k 0 = List.replicate W 0 := by
  unfold fillP; rw [List.eq_replicate_iff]; simp
theorem fillP_next {a W i k q : Nat} (hq : q < W) (h : pB a i k q = true) : (fillP a W i k q).set q 1 = fillP a W i k (q + 1) := by
  apply List.ext_getElem
  · simp
  · intro v h1 h2
    rw [List.getElem_set, fillP_get, fillP_get]
    by_cases e : q = v
    · subst e; simp [h]
    · rw [if_neg e]
      have : decide (v < q + 1) = decide (v < q) := by rw [decide_eq_decide]; omega
      rw [this]
theorem fillP_same {a W i k q : Nat} (h : pB a i k q = false) : fillP a W i k q = fillP a W i k (q + 1) := by
  unfold fillP
  apply List.map_congr_left
  intro v _
  by_cases e : v = q
  · subst e; simp [h]
  · have : decide (v < q + 1) = decide (v < q) := by rw [decide_eq_decide]; omega
    rw [this]
def maskN (a W i k : Nat) : Nat := (2 ^ (a - i) - 1) <<< i ||| (2 ^ (W - k) - 1) <<< k
theorem maskN_bit (a W i k v : Nat) (hi : i ≤ a) (hk : k ≤ W) (hv : v < W) : (maskN a W i k).testBit v = pB a i k v := by
  unfold maskN pB
  rw [Nat.testBit_or, Nat.testBit_shiftLeft, Nat.testBit_shiftLeft, Nat.testBit_two_pow_sub_one, Nat.testBit_two_pow_sub_one]
  rw [Bool.eq_iff_iff]
  simp
  omega
theorem maskN_fill (a W i k : Nat) (hi : i ≤ a) (hk : k ≤ W) : fillP a W i k W = binL (maskN a W i k) W := by
  unfold fillP binL
  apply List.map_congr_left
  intro v hv
  have hv' := List.mem_range.1 hv
  rw [bitI, maskN_bit a W i k v hi hk hv']
  simp [hv']
def okP (W : Nat) (cs : List (Int × Int)) (a i k : Nat) : Bool := ascB (netRun cs (fillP a W i k W))
theorem okP_N (W : Nat) (cs : List (Int × Int)) (h : ∀ c ∈ cs, cmpOk W c = true) (a i k : Nat) (hi : i ≤ a) (hk : k ≤ W) : okP W cs a i k = ascN (netN cs (maskN a W i k)) W := by
  unfold okP; rw [maskN_fill a W i k hi hk, ← netN_bin W cs _ h, ascN_bin]
def rowOk (W : Nat) (cs : List (Int × Int)) (a i : Nat) (m : Nat) : Bool := (List.range m).all fun d => okP W cs a i (a + d)
def msAll (W : Nat) (cs : List (Int × Int)) (a m : Nat) : Bool := (List.range m).all fun i => rowOk W cs a i (W - a + 1)
def msOk (W : Int) (cs : List (Int × Int)) (a : Int) : Bool := chkOk W cs && inB a 0 W
def msV (W : Int) (cs : List (Int × Int)) (a : Int) : Bool := msOk W cs a && msAll W.toNat cs a.toNat (a.toNat + 1)
theorem row_succ (W : Nat) (cs : List (Int × Int)) (a i m : Nat) : rowOk W cs a i (m + 1) = (rowOk W cs a i m && okP W cs a i (a + m)) := by simp [rowOk, List.range_succ]
theorem ms_succ (W : Nat) (cs : List (Int × Int)) (a m : Nat) : msAll W cs a (m + 1) = (msAll W cs a m && rowOk W cs a m (W - a + 1)) := by simp [msAll, List.range_succ]
theorem ms_hit (W : Nat) (cs : List (Int × Int)) (a i d : Nat) (hi : i ≤ a) (hd : d ≤ W - a) (h : okP W cs a i (a + d) = false) : msAll W cs a (a + 1) = false := by
  unfold msAll rowOk
  rw [List.all_eq_false]
  refine ⟨i, List.mem_range.2 (by omega), ?_⟩
  simp only [Bool.not_eq_true]
  rw [List.all_eq_false]
  exact ⟨d, List.mem_range.2 (by omega), by simp [h]⟩
theorem ret_bb {a b x y : Bool} (h : a = b) (h' : x = y) : Ending.returned (.tuple #[.bool a, .bool x]) = .returned (.tuple #[.bool b, .bool y]) := by rw [h, h']
set_option maxRecDepth 100000 in
set_option maxHeartbeats 3200000 in
theorem MergesSorted_any (W : Int) (A : Option Addr) (cs : List (Int × Int)) (c : Nat) (a : Int) (w : World) (hx : Reads w w.heap.size 2 A cs.length (cmps cs)) (hl : cs.length ≤ 1099511627776) :
    Calls Try.prog 21 #[.agg #[.int .i64 W, .slice A cs.length c], .int .i64 a] w fun e w' => e = .returned (.tuple #[.bool (msV W cs a), .bool (msOk W cs a)]) ∧ Below w.heap.size w w' := by
  have hb0 : Below w.heap.size w (w.alloc (.cells #[.int .i64 W, .slice A cs.length c] 26)) := by go_grown
  cases hck : chkOk W cs
  · have hms : msOk W cs a = false := by simp [msOk, hck]
    rw [show msV W cs a = false from by simp [msV, hms], hms]
    clear hms
    go_enter Try.func21, Try.ntmps21
    go_wp2_with fail
    refine (isChecked_any W A cs c _ ((hx.below hb0).more hb0.size) hl).mono ?_
    rintro e w1 ⟨rfl, hb1⟩
    obtain ⟨B1, k1⟩ := step_box hb1
    rw [hck]
    go_wp2_with fail
    go_ret2
    exact ⟨rfl, B1⟩
  cases hin : inB a 0 W
  · have hms : msOk W cs a = false := by simp [msOk, hin]
    rw [show msV W cs a = false from by simp [msV, hms], hms]
    clear hms
    go_enter Try.func21, Try.ntmps21
    go_wp2_with fail
    refine (isChecked_any W A cs c _ ((hx.below hb0).more hb0.size) hl).mono ?_
    rintro e w1 ⟨rfl, hb1⟩
    obtain ⟨B1, k1⟩ := step_box hb1
    obtain ⟨x0, x1⟩ := k1.two
    have xl := k1.lt
    rw [hck]
    go_wp2_with (go_at_call 60; refine (in_any _ _ _ _).mono ?_; rintro e w' ⟨rfl, rfl⟩; rw [hin])
    go_ret2
    exact ⟨rfl, B1⟩
  have hms : msOk W cs a = true := by simp [msOk, hck, hin]
  rw [show msV W cs a = msAll W.toNat cs a.toNat (a.toNat + 1) from by simp [msV, hms], hms]
  clear hms
  obtain ⟨n, rfl, hnet, hn12, hcl⟩ := chk_parts hck
  have ⟨ha0, ha1⟩ := inB_iff.1 hin
  obtain ⟨q, rfl⟩ := Int.eq_ofNat_of_zero_le ha0
  rw [Int.toNat_natCast, Int.toNat_natCast]
  have hqn : q ≤ n := by omega
  have HN := Lib.hid hnet; clear hnet
  have HK := Lib.hid hck; clear hck
  have HI := Lib.hid hin; clear hin
  obtain ⟨i0, hi, hz0, hz1, hz2⟩ := info_parts (show (Try.prog.info? 3).map (fun i => (i.zero, i.size, i.bytes)) = some (some (.int .i64 0), 1, 8) by kernel_rfl)
  have hm : ((n : Int)).toNat = n := by omega
  have hz0' : (madeCells (Value.int .i64 0).cells (n * 1)).toList = ints (List.replicate n 0) := by
    rw [Nat.mul_one]; simp [ints, Value.cells, toList_madeCells_one]
  go_enter Try.func21, Try.ntmps21
  go_wp2_with fail
  refine (isChecked_any n A cs c _ ((hx.below hb0).more hb0.size) hl).mono ?_
  rintro e w1 ⟨rfl, hb1⟩
  obtain ⟨B1, k1⟩ := step_box hb1
  obtain ⟨x0, x1⟩ := k1.two
  have xl := k1.lt
  rw [HK.out]
  go_wp2_with (go_at_call 60; refine (in_any _ _ _ _).mono ?_; rintro e w' ⟨rfl, rfl⟩; rw [HI.out])
  clear x0 x1 xl
  go_loopw [6] (fun i wr => ∃ k : Nat, k ≤ q + 1 ∧ i = .int .i64 k ∧ msAll n cs q k = true ∧ Below w.heap.size w wr ∧ Blk wr w.heap.size 26 #[.int .i64 n, .slice A cs.length c]) (fun i _ => q + 1 - (intOf i).toNat)
  case atStart => exact ⟨0, by omega, rfl, by simp [msAll], B1, k1⟩
  case round =>
    clear B1 k1 hb1 hb0
    obtain ⟨i, hiq, rfl, hall, hb, hbx⟩ := hrel
    have HALL := Lib.hid hall; clear hall
    by_cases hlt : i ≤ q
    · obtain ⟨wo, rfl⟩ : ∃ wo : World, wo = wr := ⟨_, rfl⟩
      go_wp2_with fail
      go_loopw [7] (fun x wr => ∃ d : Nat, d ≤ n - q + 1 ∧ x = .int .i64 ((q : Int) + d) ∧ rowOk n cs q i d = true ∧ Below w.heap.size w wr ∧ Blk wr w.heap.size 26 #[.int .i64 n, .slice A cs.length c]) (fun x _ => n + 1 - (intOf x).toNat)
      case atStart => exact ⟨0, by omega, by simp, by simp [rowOk], hb, hbx⟩
      case round =>
        clear hb hbx
        obtain ⟨d, hdn, rfl, hrow, hb, hbx⟩ := hrel
        have HROW := Lib.hid hrow; clear hrow
        obtain ⟨x0, x1⟩ := hbx.two
        have xl := hbx.lt
        by_cases hld : d ≤ n - q
        · obtain ⟨w2, hmk, hown, hgr⟩ := run_make_full (P := Try.prog) wr w.heap.size 33 3 i0 (.int .i64 0) 1 Try.underlying33 hi hz0 hz1 .i64 .i64 n (by rw [hz2]; omega) (by unfold maxLen; omega) hb.size
          have hb2 : Below w.heap.size w w2 := hb.grown hgr hb.size (by simp)
          have kb2 : Blk w2 w.heap.size 26 #[.int .i64 n, .slice A cs.length c] := hbx.grown hgr (by simp)
          rw [hz0', ← fillP_zero q n i (q + d)] at hown
          obtain ⟨k, hk⟩ : ∃ k : Nat, k = q + d := ⟨_, rfl⟩
          rw [← hk] at hown
          have hkI : (q : Int) + d = k := by omega
          rw [hkI]
          have hkn : k ≤ n := by omega
          have HKI := Lib.hid hkI; clear hkI
          have HKK := Lib.hid hk; clear hk
          go_wp2_with fail
          clear hmk x0 x1
          generalize hgO : wr.heap.size = gO at hown xl ⊢
          clear hgO
          go_loopw [37] (fun x wr => ∃ v : Nat, v ≤ n ∧ x = .int .i64 v ∧ Below w.heap.size w wr ∧ Blk wr w.heap.size 26 #[.int .i64 n, .slice A cs.length c] ∧
              wr.ownsRow w.heap.size 3 1 (.slice (some ⟨gO, 0, none⟩) n n) n (ints (fillP q n i k v))) (fun x _ => n - (intOf x).toNat)
          case atStart => exact ⟨0, by omega, rfl, hb2, kb2, hown⟩
          case round =>
            clear hb2 kb2 hown hgr hb hbx
            obtain ⟨v, hvn, rfl, hb, hbx, hown⟩ := hrel
            by_cases hlv : v < n
            · have hg := (own_lt hown gO rfl)
              have hf2 := hown.frozenAt v
              have hc2 := hown.cellAt v (by omega)
              rw [ints_get (by simpa using hlv), fillP_get] at hc2
              simp only [Nat.lt_irrefl, decide_false, Bool.false_and, Bool.false_eq_true, if_false] at hc2
              have hs := hown.stored v (.int .i64 1)
              rw [ints_set] at hs
              have HSS := Lib.hid hs; clear hs
              have hpb : pB q i k v = ((decide (i ≤ v) && decide (v < q)) || decide (k ≤ v)) := rfl
              have HPB := Lib.hid hpb; clear hpb
              by_cases c1 : i ≤ v <;> by_cases c2 : v < q <;> by_cases c3 : k ≤ v
              all_goals try (exfalso; omega)
              all_goals
                go_wp2_with fail
                go_roundw
                case rel => first
                  | (refine ⟨v + 1, by omega, by go_num, hb.grown HSS.out.2 hb.size (by simp; omega), hbx.grown HSS.out.2 (by simp; omega), ?_⟩
                     rw [← fillP_next hlv (by rw [HPB.out]; simp [c1, c2, c3])]
                     exact HSS.out.1)
                  | (refine ⟨v + 1, by omega, by go_num, hb, hbx, ?_⟩
                     rw [← fillP_same (by rw [HPB.out]; simp [c1, c2, c3])]
                     exact hown)
                case measure => simp [intOf]; omega
            · obtain rfl : v = n := by omega
              obtain ⟨x0, x1⟩ := hbx.two
              have hok : okP v cs q i k = ascB (netRun cs (fillP q v i k v)) := rfl
              have hrs := row_succ v cs q i d
              rw [← HKK.out, HROW.out, Bool.true_and] at hrs
              have HRS := Lib.hid hrs; clear hrs
              have HOK := Lib.hid hok; clear hok
              go_wp2_with fail
              refine (sorts_n v A cs c (some ⟨gO, 0, none⟩) (fillP q v i k v) v v _ (by simp) ((hx.below hb).more hb.size) HN.out (by simp) (Reads.of_own hown) (by omega)).mono ?_
              rintro e w3 ⟨rfl, hb3⟩
              cases ht : ascB (netRun cs (fillP q v i k v))
              · have HT := Lib.hid ht; clear ht
                go_wp2_with fail
                go_ret2
                exact ⟨ret_bb (ms_hit v cs q i d hlt hld (by rw [← HKK.out, HOK.out, HT.out])).symm rfl, bthen' hb hb3⟩
              · have HT := Lib.hid ht; clear ht
                go_wp2_with fail
                go_roundw
                case rel => exact ⟨d + 1, by omega, by rw [← HKI.out]; go_num, by rw [HRS.out, HOK.out, HT.out], bthen' hb hb3, hbx.below_ hb3⟩
                case measure => simp [intOf]; omega
        · have hms := ms_succ n cs q i
          rw [HALL.out, Bool.true_and, show n - q + 1 = d from by omega, HROW.out] at hms
          have HMS := Lib.hid hms; clear hms
          go_wp2_with fail
          go_roundw
          case rel => exact ⟨i + 1, by omega, by go_num, HMS.out, hb, hbx⟩
          case measure => simp [intOf]; omega
    · obtain rfl : i = q + 1 := by omega
      go_wp2_with fail
      go_ret2
      exact ⟨ret_bb HALL.out.symm rfl, hb⟩
end Go.Proofs.Yteigceeghnphmaa
