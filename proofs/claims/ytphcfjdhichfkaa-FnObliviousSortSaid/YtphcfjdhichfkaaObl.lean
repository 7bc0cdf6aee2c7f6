/- Oblivious compaction and expansion. -/
import Derived.Test.YtphcfjdhichfkaaCmp
import Derived.Test.YtphcfjdhichfkaaHold
import Derived.Test.YtphcfjdhichfkaaPad
namespace Go.Proofs.Ytphcfjdhichfkaa
open Go.RowKit
set_option linter.unusedVariables false

/-- the kept elements among the first k -/
def picked (zs : List Int) (ks : List Bool) (k : Nat) : List Int := (((zs.zip ks).take k).filter (·.2)).map (·.1)
theorem picked_zero (zs : List Int) (ks : List Bool) : picked zs ks 0 = [] := by simp [picked]
theorem picked_succ {zs : List Int} {ks : List Bool} {k : Nat} (h1 : k < zs.length) (h2 : k < ks.length) : picked zs ks (k + 1) = picked zs ks k ++ (if ks[k] then [zs[k]] else []) := by
  have h : k < (zs.zip ks).length := by simp; omega
  unfold picked
  rw [List.take_succ_eq_append_getElem h, List.filter_append, List.map_append]
  congr 1
  cases hk : ks[k] <;> simp [hk]
theorem picked_len (zs : List Int) (ks : List Bool) (k : Nat) : (picked zs ks k).length ≤ k := by
  unfold picked
  rw [List.length_map]
  exact Nat.le_trans (List.length_filter_le _ _) (by simp; omega)
def ocOk (zs : List Int) (ks : List Bool) : Bool := vList zs && decide (ks.length = zs.length)
def padTo (n : Nat) (l : List Int) : List Int := l ++ List.replicate (n - l.length) 0
def ocV (zs : List Int) (ks : List Bool) : List Int := if ocOk zs ks then padTo zs.length (picked zs ks zs.length) else []
def ocT (zs : List Int) (ks : List Bool) : List (Int × Int) := if ocOk zs ks then ctrace zs.length else []
theorem padTo_len (n : Nat) (l : List Int) (h : l.length ≤ n) : (padTo n l).length = n := by simp [padTo]; omega
theorem vList_len {zs : List Int} (h : vList zs = true) : zs.length ≤ 64 := by simp [vList] at h; exact h.1
theorem ocOk_iff {zs : List Int} {ks : List Bool} (h : ocOk zs ks = true) : zs.length ≤ 64 ∧ ks.length = zs.length := by
  simp only [ocOk, Bool.and_eq_true, decide_eq_true_eq] at h
  exact ⟨vList_len h.1, h.2⟩
theorem oc_len (zs : List Int) (ks : List Bool) : (ocV zs ks).length ≤ 64 ∧ (ocT zs ks).length ≤ 448 := by
  unfold ocV ocT
  split
  · rename_i h
    obtain ⟨h1, h2⟩ := ocOk_iff h
    refine ⟨?_, traceFrom_len _ (by omega) 7 1 (by omega)⟩
    rw [padTo_len _ _ (picked_len _ _ _)]; exact h1
  · simp
theorem pad_set (l : List Int) (n : Nat) (x : Int) (h : l.length < n) : (padTo n l).set l.length x = padTo n (l ++ [x]) := by
  unfold padTo
  rw [List.set_append_right _ _ (Nat.le_refl _), Nat.sub_self, show n - l.length = (n - (l ++ [x]).length) + 1 from by simp; omega, List.replicate_succ]
  simp
theorem info_int' : (Try.prog.info? 3).map (fun i => (i.zero, i.size, i.bytes)) = some (some (.int .i64 0), 1, 8) := by kernel_rfl
set_option maxRecDepth 100000 in
set_option maxHeartbeats 1600000 in
theorem ObliviousCompact_any (A0 : Option Addr) (z0 : List Int) (c0 : Nat) (A1 : Option Addr) (z1 : List Bool) (c1 : Nat) (w : World) (hx0 : Reads w w.heap.size 1 A0 z0.length (ints z0)) (hl0 : z0.length ≤ 1099511627776)
    (hx1 : Reads w w.heap.size 1 A1 z1.length (bools z1)) (hl1 : z1.length ≤ 1099511627776) :
    Calls Try.prog 12 #[.slice A0 z0.length c0, .slice A1 z1.length c1] w fun e w' => ∃ A c A' c', e = .returned (.tuple #[.slice A (ocV z0 z1).length c, .slice A' (ocT z0 z1).length c', .bool (ocOk z0 z1)]) ∧
      w'.ownsRow w.heap.size 3 1 (.slice A (ocV z0 z1).length c) (ocV z0 z1).length (ints (ocV z0 z1)) ∧
      w'.ownsRow w.heap.size 37 2 (.slice A' (ocT z0 z1).length c') (ocT z0 z1).length (cmps (ocT z0 z1)) ∧ Below w.heap.size w w' := by
  cases hok : ocOk z0 z1
  · rw [show ocV z0 z1 = [] from by simp [ocV, hok], show ocT z0 z1 = [] from by simp [ocT, hok]]
    cases hv : vList z0
    · clear hok
      go_enter Try.func12, Try.ntmps12
      go_wp2_with (go_at_call 38; refine (IsValidList_any A0 z0 c0 _ hx0 hl0).mono ?_; rintro e w1 ⟨rfl, hb1⟩)
      exact bodyPost_ret (v := .tuple #[.slice none 0 0, .slice none 0 0, .bool false]) (by simp [results, Try.results12, go_sem]) rfl ⟨none, 0, none, 0, rfl, World.ownsRow_nil _ _ _ _, World.ownsRow_nil _ _ _ _, hb1⟩
    · have hd : ((z1.length : Int) != (z0.length : Int)) = true := by simp [ocOk, hv] at hok; simp; omega
      clear hok
      go_enter Try.func12, Try.ntmps12
      go_wp2_with (go_at_call 38; refine (IsValidList_any A0 z0 c0 _ hx0 hl0).mono ?_; rintro e w1 ⟨rfl, hb1⟩)
      exact bodyPost_ret (v := .tuple #[.slice none 0 0, .slice none 0 0, .bool false]) (by simp [results, Try.results12, go_sem]) rfl ⟨none, 0, none, 0, rfl, World.ownsRow_nil _ _ _ _, World.ownsRow_nil _ _ _ _, hb1⟩
  · obtain ⟨h64, hle⟩ := ocOk_iff hok
    have hv : vList z0 = true := by simp [ocOk] at hok; exact hok.1
    have hd : ((z1.length : Int) != (z0.length : Int)) = false := by simp; omega
    rw [show ocV z0 z1 = padTo z0.length (picked z0 z1 z0.length) from by simp [ocV, hok], show ocT z0 z1 = ctrace z0.length from by simp [ocT, hok]]
    clear hok
    have HL := Lib.hid hle; clear hle
    obtain ⟨i0, hi, hz0, hz1, hz2⟩ := info_parts info_int'
    have hpl := padTo_len z0.length (picked z0 z1 z0.length) (picked_len _ _ _)
    have HPL := Lib.hid hpl; clear hpl
    go_enter Try.func12, Try.ntmps12
    go_wp2_with (go_at_call 38; refine (IsValidList_any A0 z0 c0 _ hx0 hl0).mono ?_; rintro e w1 ⟨rfl, hb1⟩)
    have ho1 := World.ownsRow_made (base := w.heap.size) (size := 1) (e := 3) w1 #[] 0 hb1.size (by simp) (by simp)
    have hb2 := alloc_ hb1 (.cells #[] 3)
    go_loopw [7, 23] (fun o i wr => ∃ (k : Nat) (ys : List Int), k ≤ z0.length ∧ i = .int .i64 k ∧ ys = picked z0 z1 k ∧ Below w.heap.size w wr ∧ wr.ownsRow w.heap.size 3 1 o ys.length (ints ys)) (fun _ i _ => z0.length - (intOf i).toNat)
    case atStart => exact ⟨0, [], by omega, rfl, (picked_zero _ _).symm, hb2, ho1⟩
    case round =>
      clear ho1 hb2 hb1
      obtain ⟨k, ys, hk, rfl, hys, hb, hown⟩ := hrel
      have hyl : ys.length ≤ k := by rw [hys]; exact picked_len _ _ _
      have HY := Lib.hid hys; clear hys
      by_cases hlt : k < z0.length
      · have hlt1 : k < z1.length := by have := HL.out; omega
        obtain ⟨ad, rfl, had, hc⟩ := (hx0.below hb).int hlt
        obtain ⟨bd, rfl, hbd, hd1⟩ := (hx1.below hb).tv hlt1
        have hps := picked_succ hlt hlt1
        cases hkk : z1[k]
        · rw [hkk, ← HY.out] at hps
          simp only [Bool.false_eq_true, if_false, List.append_nil] at hps
          have HP := Lib.hid hps; clear hps
          rw [hkk] at hd1
          go_wp2_with fail
          go_roundw
          case rel => exact ⟨k + 1, ys, by omega, by go_num, HP.out.symm, hb, hown⟩
          case measure => simp [intOf]; omega
        · rw [hkk, ← HY.out] at hps
          simp only [if_true] at hps
          have HP := Lib.hid hps; clear hps
          rw [hkk] at hd1
          go_wp2_with (at_builtin; refine wpList_push _ rfl _ _ 24 rfl w.heap.size 3 i0 _ 1 8 Try.underlying24 hi hz0 hz1 hz2 rfl (by decide) u7 _ _ rfl hown #[.int .i64 z0[k]] rfl rfl (by simp [Value.oneCell']) (by omega) (by unfold maxLen; omega) hb.size ?_; intro g1 k1 w2 hown1 hg1 hb3 hat3)
          go_roundw
          case rel => exact ⟨k + 1, ys ++ [z0[k]], by omega, by go_num, HP.out.symm, hb.trans hb3, by simpa [ints] using hown1⟩
          case measure => simp [intOf]; omega
      · have hks : k = z0.length := by omega
        have HKS := Lib.hid hks; clear hks
        obtain ⟨A, c, rfl⟩ := own_slice hown
        go_wp2_with (first | (at_builtin; refine wpList_pad _ rfl _ _ 24 3 rfl w.heap.size 3 i0 _ 8 .i64 .i64 Try.underlying24 Try.underlying3 hi hz0 hz1 hz2 rfl rfl _ _ _ rfl hown ((z0.length : Int) - ys.length) rfl (by omega) (by unfold maxLen; omega) (by omega) hb.size ?_; intro v3 w3 hown3 hg3 hb3) | (go_at_call 39; refine (compactionTrace_any z0.length _ (by omega) (by omega)).mono ?_; rintro e w4 ⟨v4, rfl, hown4, hb4⟩))
        obtain ⟨A3, c3, rfl⟩ := own_slice hown3
        obtain ⟨A4, c4, rfl⟩ := own_slice hown4
        have hp : padTo z0.length (picked z0 z1 z0.length) = ys ++ List.replicate (z0.length - ys.length) 0 := by unfold padTo; rw [HY.out, HKS.out]
        have hn : ys.length + ((z0.length : Int) - ys.length).toNat = (padTo z0.length (picked z0 z1 z0.length)).length := by rw [HPL.out]; omega
        have hi3 : ints ys ++ List.replicate ((z0.length : Int) - ys.length).toNat (.int .i64 0) = ints (padTo z0.length (picked z0 z1 z0.length)) := by
          rw [hp, show ((z0.length : Int) - ys.length).toNat = z0.length - ys.length from by omega]; simp [ints]
        have hbt := hb.trans hb3
        rw [hn] at hown3 ⊢
        rw [hi3] at hown3
        exact bodyPost_ret (v := .tuple #[.slice A3 (padTo z0.length (picked z0 z1 z0.length)).length c3, .slice A4 (ctrace z0.length).length c4, .bool true]) (by simp [results, Try.results12, go_sem]) rfl ⟨A3, c3, A4, c4, rfl, own_below hown3 hb4 (Nat.le_refl _), own_base hown4 hbt.size, bthen hbt hb4⟩
set_option maxRecDepth 100000 in
set_option maxHeartbeats 1600000 in
theorem sObliviousCompact_any (A0 : Option Addr) (z0 : List Int) (c0 : Nat) (A1 : Option Addr) (z1 : List Bool) (c1 : Nat) (w : World) (hx0 : Reads w w.heap.size 1 A0 z0.length (ints z0)) (hl0 : z0.length ≤ 1099511627776)
    (hx1 : Reads w w.heap.size 1 A1 z1.length (bools z1)) (hl1 : z1.length ≤ 1099511627776) :
    Calls Try.prog 18 #[.slice A0 z0.length c0, .slice A1 z1.length c1] w fun e w' => ∃ A c A' c', e = .returned (.tuple #[.slice A (ocV z0 z1).length c, .slice A' (ocT z0 z1).length c', .bool (ocOk z0 z1)]) ∧
      w'.ownsRow w.heap.size 3 1 (.slice A (ocV z0 z1).length c) (ocV z0 z1).length (ints (ocV z0 z1)) ∧
      w'.ownsRow w.heap.size 37 2 (.slice A' (ocT z0 z1).length c') (ocT z0 z1).length (cmps (ocT z0 z1)) ∧ Below w.heap.size w w' := by
  cases hok : ocOk z0 z1
  · rw [show ocV z0 z1 = [] from by simp [ocV, hok], show ocT z0 z1 = [] from by simp [ocT, hok]]
    have f1 : ((w.alloc (.cells #[] 3)).alloc (.cells #[] 37)).ownsRow w.heap.size 3 1 (.slice (some ⟨w.heap.size, 0, none⟩) 0 0) 0 [] := (World.ownsRow_made w #[] 0 (Nat.le_refl _) (by simp) (by simp)).alloc _
    have f2 : ((w.alloc (.cells #[] 3)).alloc (.cells #[] 37)).ownsRow w.heap.size 37 2 (.slice (some ⟨w.heap.size + 1, 0, none⟩) 0 0) 0 [] := by
      have := World.ownsRow_made (base := w.heap.size) (size := 2) (e := 37) (w.alloc (.cells #[] 3)) #[] 0 (by simp) (by simp) (by simp)
      simpa using this
    have f3 : Below w.heap.size w ((w.alloc (.cells #[] 3)).alloc (.cells #[] 37)) := by go_grown
    cases hv : vList z0
    · clear hok
      go_enter Try.func18, Try.ntmps18
      go_wp2_with (go_at_call 46; refine (l2List_any A0 z0 c0 _ hx0 hl0).mono ?_; rintro e w1 ⟨rfl, rfl⟩)
      exact bodyPost_ret (v := .tuple #[.slice (some ⟨w.heap.size, 0, none⟩) 0 0, .slice (some ⟨w.heap.size + 1, 0, none⟩) 0 0, .bool false]) (by simp [results, Try.results18, go_sem]) rfl ⟨_, 0, _, 0, rfl, f1, f2, f3⟩
    · have hd : ((z1.length : Int) != (z0.length : Int)) = true := by simp [ocOk, hv] at hok; simp; omega
      clear hok
      go_enter Try.func18, Try.ntmps18
      go_wp2_with (go_at_call 46; refine (l2List_any A0 z0 c0 _ hx0 hl0).mono ?_; rintro e w1 ⟨rfl, rfl⟩)
      exact bodyPost_ret (v := .tuple #[.slice (some ⟨w.heap.size, 0, none⟩) 0 0, .slice (some ⟨w.heap.size + 1, 0, none⟩) 0 0, .bool false]) (by simp [results, Try.results18, go_sem]) rfl ⟨_, 0, _, 0, rfl, f1, f2, f3⟩
  · obtain ⟨h64, hle⟩ := ocOk_iff hok
    have hv : vList z0 = true := by simp [ocOk] at hok; exact hok.1
    have hd : ((z1.length : Int) != (z0.length : Int)) = false := by simp; omega
    rw [show ocV z0 z1 = padTo z0.length (picked z0 z1 z0.length) from by simp [ocV, hok], show ocT z0 z1 = ctrace z0.length from by simp [ocT, hok]]
    clear hok
    have HL := Lib.hid hle; clear hle
    obtain ⟨i0, hi, hz0, hz1, hz2⟩ := info_parts info_int'
    have hpl := padTo_len z0.length (picked z0 z1 z0.length) (picked_len _ _ _)
    have HPL := Lib.hid hpl; clear hpl
    have hz0' : (madeCells (Value.int .i64 0).cells (z0.length * 1)).toList = ints (padTo z0.length []) := by
      rw [Nat.mul_one]; simp [ints, padTo, Value.cells, toList_madeCells_one]
    have hm : ((z0.length : Int)).toNat = z0.length := by omega
    obtain ⟨w2, hmk, hown2, hgr2⟩ := run_make_full (P := Try.prog) w w.heap.size 24 3 i0 (.int .i64 0) 1 Try.underlying24 hi hz0 hz1 .i64 .i64 z0.length (by rw [hz2]; omega) (by unfold maxLen; omega) (Nat.le_refl _)
    have hb2 : Below w.heap.size w w2 := (Below.refl _ _).grown hgr2 (Nat.le_refl _) (by simp)
    rw [hz0'] at hown2
    go_enter Try.func18, Try.ntmps18
    go_wp2_with (go_at_call 46; refine (l2List_any A0 z0 c0 _ hx0 hl0).mono ?_; rintro e w1 ⟨rfl, rfl⟩)
    clear hmk
    go_loopw [8, 9] (fun n i wr => ∃ (k : Nat) (ys : List Int), k ≤ z0.length ∧ i = .int .i64 k ∧ n = .int .i64 ys.length ∧ ys = picked z0 z1 k ∧ Below w.heap.size w wr ∧ wr.ownsRow w.heap.size 3 1 (.slice (some ⟨w.heap.size, 0, none⟩) z0.length z0.length) z0.length (ints (padTo z0.length ys))) (fun _ i _ => z0.length - (intOf i).toNat)
    case atStart => exact ⟨0, [], by omega, rfl, rfl, (picked_zero _ _).symm, hb2, hown2⟩
    case round =>
      clear hown2 hb2 hgr2
      obtain ⟨k, ys, hk, rfl, rfl, hys, hb, hown⟩ := hrel
      have hyl : ys.length ≤ k := by rw [hys]; exact picked_len _ _ _
      have hpl := padTo_len z0.length ys (by omega)
      have HY := Lib.hid hys; clear hys
      by_cases hlt : k < z0.length
      · have hlt1 : k < z1.length := by have := HL.out; omega
        obtain ⟨ad, rfl, had, hc⟩ := (hx0.below hb).int hlt
        obtain ⟨bd, rfl, hbd, hd1⟩ := (hx1.below hb).tv hlt1
        have hps := picked_succ hlt hlt1
        cases hkk : z1[k]
        · rw [hkk, ← HY.out] at hps
          simp only [Bool.false_eq_true, if_false, List.append_nil] at hps
          have HP := Lib.hid hps; clear hps hpl
          rw [hkk] at hd1
          go_wp2_with fail
          go_roundw
          case rel => exact ⟨k + 1, ys, by omega, by go_num, rfl, HP.out.symm, hb, hown⟩
          case measure => simp [intOf]; omega
        · rw [hkk, ← HY.out] at hps
          simp only [if_true] at hps
          have HP := Lib.hid hps; clear hps
          rw [hkk] at hd1
          have d0 := hown.cellAt ys.length (by omega)
          rw [ints_get (by omega)] at d0
          generalize (padTo z0.length ys)[ys.length] = u0 at d0
          have f0 := hown.frozenAt ys.length
          have s0 := hown.stored ys.length (.int .i64 z0[k])
          rw [ints_set, pad_set _ _ _ (by omega)] at s0
          have S := Lib.hid s0; clear s0 hpl
          go_wp2_with fail
          go_roundw
          case rel => exact ⟨k + 1, ys ++ [z0[k]], by omega, by go_num, by simp, HP.out.symm, hb.grown S.out.2 hb.size (by simp), S.out.1⟩
          case measure => simp [intOf]; omega
      · have hks : k = z0.length := by omega
        have HKS := Lib.hid hks; clear hks
        clear hpl
        go_wp2_with (go_at_call 47; refine (l14Trace_any z0.length _ (by omega) (by omega)).mono ?_; rintro e w4 ⟨v4, rfl, hown4, hb4⟩)
        obtain ⟨A4, c4, rfl⟩ := own_slice hown4
        rw [HY.out, HKS.out] at hown
        have hn : z0.length = (padTo z0.length (picked z0 z1 z0.length)).length := by rw [HPL.out]
        refine bodyPost_ret (v := .tuple #[.slice (some ⟨w.heap.size, 0, none⟩) z0.length z0.length, .slice A4 (ctrace z0.length).length c4, .bool true]) (by simp [results, Try.results18, go_sem]) rfl ⟨some ⟨w.heap.size, 0, none⟩, z0.length, A4, c4, by rw [HPL.out], ?_, own_base hown4 hb.size, bthen hb hb4⟩
        rw [HPL.out]
        exact own_below hown hb4 (Nat.le_refl _)
end Go.Proofs.Ytphcfjdhichfkaa
