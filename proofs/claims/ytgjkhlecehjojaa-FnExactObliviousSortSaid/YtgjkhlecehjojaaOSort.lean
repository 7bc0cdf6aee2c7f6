/- ObliviousSort: the odd-even network's comparators and the sorted list. -/
import Derived.Test.YtgjkhlecehjojaaSortI
import Derived.Test.YtgjkhlecehjojaaOddZ
import Derived.Test.YtgjkhlecehjojaaBuildOddEven
import Derived.Test.YtgjkhlecehjojaaHold
namespace Go.Proofs.Ytgjkhlecehjojaa
open Go.RowKit
set_option linter.unusedVariables false
def osV (zs : List Int) : List Int := if vList zs then srt zs else []
def osT (zs : List Int) : List (Int × Int) := if vList zs then oddEvenL zs.length else []
theorem os_len (zs : List Int) : (osV zs).length ≤ 64 ∧ (osT zs).length ≤ 4096 := by
  cases h : vList zs
  · simp [osV, osT, h]
  · have h64 : zs.length ≤ 64 := by simp [vList] at h; exact h.1
    simp only [osV, osT, h, if_true, srt_len]
    exact ⟨h64, oddEvenL_len _ h64⟩
theorem l2SortedW (A : Option Addr) (zs : List Int) (c : Nat) (W : Nat) (hz : zs.length = W) (w : World) (hx : Reads w w.heap.size 1 A W (ints zs)) (hl : W ≤ 1048576) :
    Calls Try.prog 39 #[.slice A W c] w fun e w' => ∃ v, e = .returned v ∧ w'.ownsRow w.heap.size 3 1 v W (ints (srt zs)) ∧ Below w.heap.size w w' := by
  subst hz; exact l2Sorted_any A zs c w hx hl
set_option maxRecDepth 100000 in
set_option maxHeartbeats 3200000 in
theorem sOSort_true (A0 : Option Addr) (z0 : List Int) (c0 : Nat) (W : Nat) (hz : z0.length = W) (w : World) (hx0 : Reads w w.heap.size 1 A0 W (ints z0)) (hW : W ≤ 64) (hv : vList z0 = true) :
    Calls Try.prog 14 #[.slice A0 W c0] w fun e w' => ∃ A c A' c', e = .returned (.tuple #[.slice A W c, .slice A' (oddEvenL W).length c', .bool true]) ∧
      w'.ownsRow w.heap.size 3 1 (.slice A W c) W (ints (srt z0)) ∧
      w'.ownsRow w.heap.size 58 2 (.slice A' (oddEvenL W).length c') (oddEvenL W).length (cmps (oddEvenL W)) ∧ Below w.heap.size w w' := by
  have HT := Lib.hid (oddEvenL_len W hW)
  have HZ := Lib.hid hz; clear hz
  obtain ⟨i0, hi, hz0, hz1, hz2⟩ := info_parts info_cmp
  have hb0 : Below w.heap.size w (w.alloc (.cells #[] 58)) := (Below.refl _ _).alloc (Nat.le_refl _) _
  have hn0 : (w.alloc (.cells #[] 58)).ownsRow w.heap.size 58 2 (.slice (some ⟨w.heap.size, 0, none⟩) 0 0) 0 [] := World.ownsRow_made w #[] 0 (Nat.le_refl _) (by simp) (by simp)
  have hL := l2List_any A0 z0 c0 _ (by rw [HZ.out]; exact (hx0.below hb0).more hb0.size) (by have := HZ.out; omega)
  rw [HZ.out] at hL
  go_enter Try.func14, Try.ntmps14
  go_wp2_with (go_at_call 38; refine hL.mono ?_; rintro e w2 ⟨rfl, rfl⟩; rw [hv])
  clear hL
  go_loopw [5, 6] (fun v i wr => ∃ (r : Nat) (f0 : Nat) (acc0 : List (Int × Int)), i = .int .i64 r ∧ (r ≤ W) ∧ W - r ≤ f0 ∧ acc0 ++ loopL (fun r => decide (r < W)) (oddB W) (fun r => r + 1) f0 r = (oddEvenL W) ∧ Below w.heap.size w wr ∧ wr.ownsRow w.heap.size 58 2 v acc0.length (cmps acc0)) (fun _ i _ => W - (intOf i).toNat)
  case atStart => exact ⟨0, 64, [], rfl, by omega, by omega, by first | rfl | (simp; done) | (exact rfl), hb0, hn0⟩
  case round =>
    clear hb0 hn0
    obtain ⟨r, f0, acc0, rfl, hr, hm0, hacc0, hb1, hn1⟩ := hrel
    have hal0 : acc0.length ≤ (oddEvenL W).length := by rw [← hacc0, List.length_append]; omega
    have HA0 := Lib.hid hacc0; clear hacc0
    by_cases hc0 : r < W
    · obtain ⟨f0, rfl⟩ : ∃ g, f0 = g + 1 := ⟨f0 - 1, by omega⟩
      have hs0 := HA0.out
      rw [loopL_true (by simpa using hc0)] at hs0
      have HS0 := Lib.hid hs0; clear hs0
      go_wp2_with fail
      have hal0b : (acc0 ++ oddB W r).length ≤ (oddEvenL W).length := by have h := congrArg List.length HS0.out; simp only [List.length_append] at h ⊢; omega
      obtain ⟨wo1, rfl⟩ : ∃ wo : World, wo = wr := ⟨_, rfl⟩
      go_loopw [5, 7] (fun v i wr => ∃ (k : Nat) (f1 : Nat) (acc1 : List (Int × Int)), i = .int .i64 k ∧ (k ≤ W + 1) ∧ W - k ≤ f1 ∧ acc1 ++ loopL (fun k => decide (k + 1 < W)) stepB (fun k => k + 2) f1 k = (acc0 ++ oddB W r) ∧ Below w.heap.size w wr ∧ wr.ownsRow w.heap.size 58 2 v acc1.length (cmps acc1)) (fun _ i _ => W + 2 - (intOf i).toNat)
      case atStart => exact ⟨(r % 2), 64, acc0, by simp, by omega, by omega, by first | rfl | (simp; done) | (exact rfl), hb1, hn1⟩
      case round =>
        clear hb1 hn1
        obtain ⟨k, f1, acc1, rfl, hk, hm1, hacc1, hb2, hn2⟩ := hrel
        have hal1 : acc1.length ≤ (acc0 ++ oddB W r).length := by rw [← hacc1, List.length_append]; omega
        have HA1 := Lib.hid hacc1; clear hacc1
        by_cases hc1 : k + 1 < W
        · obtain ⟨f1, rfl⟩ : ∃ g, f1 = g + 1 := ⟨f1 - 1, by omega⟩
          have hs1 := HA1.out
          rw [loopL_true (by simpa using hc1)] at hs1
          have HS1 := Lib.hid hs1; clear hs1
          have hI2 : (k : Int) + 1 < (W : Int) := by omega
          have HSB : stepB k = [((k : Int), (k : Int) + 1)] := rfl
          rw [HSB] at HS1
          clear HSB
          have HP := HS1
          go_wp2_with (at_builtin; refine wpList_push' _ rfl _ _ 28 rfl w.heap.size 58 i0 _ 2 16 Try.underlying28 hi hz0 hz1 hz2 rfl (by decide) u5 _ _ rfl (by first | exact World.ownsRow.alloc hn2 _ | exact own_drew_ (World.ownsRow.alloc hn2 _)) #[.int .i64 (k : Int), .int .i64 ((k : Int) + 1)] wr.heap.size rfl (by exact Blk.new wr _ _) rfl (by simp [Value.oneCell']) (by have := HT.out; omega) (by have := HT.out; unfold maxLen; omega) (by have := hb2.size; simp; omega) ?_; intro g1 k1 w1 hown1 hg1 hB1 hat1)
          go_roundw
          case rel => first | exact ⟨k + 2, f1, acc1 ++ [((k : Int), ((k : Int) + 1))], (by go_num), (by omega), by omega, (by rw [List.append_assoc]; exact HP.out), (alloc_ hb2 _).trans hB1, cmps_push hown1⟩ | exact ⟨k + 2, (by go_num), (by omega), f1, by omega, acc1 ++ [((k : Int), ((k : Int) + 1))], (by rw [List.append_assoc]; exact HP.out), (alloc_ hb2 _).trans hB1, cmps_push hown1⟩
          case measure => simp [intOf]; omega
        · have he1 : acc1 = (acc0 ++ oddB W r) := by have h := HA1.out; rwa [loopL_false (by simpa using hc1), List.append_nil] at h
          have hI2 : ¬ (k : Int) + 1 < (W : Int) := by omega
          have HE1 := Lib.hid he1; clear he1
          go_wp2_with fail
          go_roundw
          case rel => first | exact ⟨r + 1, f0, acc1, (by go_num), (by omega), by omega, (by rw [HE1.out, List.append_assoc]; exact HS0.out), hb2, hn2⟩ | exact ⟨r + 1, (by go_num), (by omega), f0, by omega, acc1, (by rw [HE1.out, List.append_assoc]; exact HS0.out), hb2, hn2⟩
          case measure => simp [intOf]; omega
    · have he0 : acc0 = (oddEvenL W) := by have h := HA0.out; rwa [loopL_false (by simpa using hc0), List.append_nil] at h
      rw [he0] at hn1
      obtain ⟨A', c', rfl⟩ := own_slice hn1
      go_wp2_with fail
      refine (l2SortedW A0 z0 c0 W HZ.out wr ((hx0.below hb1).more hb1.size) (by omega)).mono ?_
      rintro e w2 ⟨v2, rfl, hown2, hb2⟩
      obtain ⟨A, c, rfl⟩ := own_slice hown2
      go_wp2_with fail
      exact bodyPost_ret (v := .tuple #[.slice A W c, .slice A' (oddEvenL W).length c', .bool true]) (by simp [results, Try.results14, go_sem]) rfl ⟨A, c, A', c', rfl, own_base hown2 hb1.size, own_below hn1 hb2 (Nat.le_refl _), bthen hb1 hb2⟩
theorem sObliviousSort_any (A0 : Option Addr) (z0 : List Int) (c0 : Nat) (w : World) (hx0 : Reads w w.heap.size 1 A0 z0.length (ints z0)) (hl0 : z0.length ≤ 1048576) :
    Calls Try.prog 14 #[.slice A0 z0.length c0] w fun e w' => ∃ A c A' c', e = .returned (.tuple #[.slice A (osV z0).length c, .slice A' (osT z0).length c', .bool (vList z0)]) ∧
      w'.ownsRow w.heap.size 3 1 (.slice A (osV z0).length c) (osV z0).length (ints (osV z0)) ∧
      w'.ownsRow w.heap.size 58 2 (.slice A' (osT z0).length c') (osT z0).length (cmps (osT z0)) ∧ Below w.heap.size w w' := by
  cases hv : vList z0
  · rw [show osV z0 = [] from by simp [osV, hv], show osT z0 = [] from by simp [osT, hv]]
    have hb0 : Below w.heap.size w (w.alloc (.cells #[] 58)) := (Below.refl _ _).alloc (Nat.le_refl _) _
    have hn0 : (w.alloc (.cells #[] 58)).ownsRow w.heap.size 58 2 (.slice (some ⟨w.heap.size, 0, none⟩) 0 0) 0 [] := World.ownsRow_made w #[] 0 (Nat.le_refl _) (by simp) (by simp)
    have hb2 := alloc_ hb0 (.cells #[] 3)
    have hn2 := World.ownsRow.alloc hn0 (.cells #[] 3)
    have hn1 := World.ownsRow_made (base := w.heap.size) (size := 1) (e := 3) (w.alloc (.cells #[] 58)) #[] 0 hb0.size (by simp) (by simp)
    go_enter Try.func14, Try.ntmps14
    go_wp2_with (go_at_call 38; refine (l2List_any A0 z0 c0 _ ((hx0.below hb0).more hb0.size) (by omega)).mono ?_; rintro e w2 ⟨rfl, rfl⟩; rw [hv])
    exact bodyPost_ret (v := .tuple #[.slice (some ⟨(w.alloc (.cells #[] 58)).heap.size, 0, none⟩) 0 0, .slice (some ⟨w.heap.size, 0, none⟩) 0 0, .bool false]) (by simp [results, Try.results14, go_sem]) rfl ⟨_, _, _, _, rfl, hn1, hn2, hb2⟩
  · rw [show osV z0 = srt z0 from by simp [osV, hv], show osT z0 = oddEvenL z0.length from by simp [osT, hv], srt_len]
    exact sOSort_true A0 z0 c0 z0.length rfl w hx0 (by simp [vList] at hv; exact hv.1) hv
set_option maxRecDepth 100000 in
set_option maxHeartbeats 1600000 in
theorem ObliviousSort_any (A0 : Option Addr) (z0 : List Int) (c0 : Nat) (w : World) (hx0 : Reads w w.heap.size 1 A0 z0.length (ints z0)) (hl0 : z0.length ≤ 1048576) :
    Calls Try.prog 16 #[.slice A0 z0.length c0] w fun e w' => ∃ A c A' c', e = .returned (.tuple #[.slice A (osV z0).length c, .slice A' (osT z0).length c', .bool (vList z0)]) ∧
      w'.ownsRow w.heap.size 3 1 (.slice A (osV z0).length c) (osV z0).length (ints (osV z0)) ∧
      w'.ownsRow w.heap.size 58 2 (.slice A' (osT z0).length c') (osT z0).length (cmps (osT z0)) ∧ Below w.heap.size w w' := by
  cases hv : vList z0
  · rw [show osV z0 = [] from by simp [osV, hv], show osT z0 = [] from by simp [osT, hv]]
    go_enter Try.func16, Try.ntmps16
    go_wp2_with (go_at_call 40; refine (IsValidList_any A0 z0 c0 _ hx0 (by omega)).mono ?_; rintro e w1 ⟨rfl, hb1⟩; rw [hv])
    exact bodyPost_ret (v := .tuple #[.slice none 0 0, .slice none 0 0, .bool false]) (by simp [results, Try.results16, go_sem]) rfl ⟨none, 0, none, 0, rfl, World.ownsRow_nil _ _ _ _, World.ownsRow_nil _ _ _ _, hb1⟩
  · have h64 : z0.length ≤ 64 := by simp [vList] at hv; exact hv.1
    rw [show osV z0 = srt z0 from by simp [osV, hv], show osT z0 = oddEvenL z0.length from by simp [osT, hv], srt_len]
    go_enter Try.func16, Try.ntmps16
    go_wp2_with (go_at_call 40; refine (IsValidList_any A0 z0 c0 _ hx0 (by omega)).mono ?_; rintro e w1 ⟨rfl, hb1⟩; rw [hv])
    have hN : NetAt ((w1.alloc (.cells #[] 58)).alloc (.cells #[.int .i64 (z0.length : Int), .slice (some ⟨w1.heap.size, 0, none⟩) 0 0] 54)) w.heap.size (w1.heap.size + 1) z0.length [] := by
      have hs := hb1.size
      refine ⟨.slice (some ⟨w1.heap.size, 0, none⟩) 0 0, ?_, ?_, by omega⟩
      · have := Blk.new (w1.alloc (.cells #[] 58)) 54 #[.int .i64 (z0.length : Int), .slice (some ⟨w1.heap.size, 0, none⟩) 0 0]
        simpa using this
      · have := World.ownsRow_made (base := w.heap.size) (size := 2) (e := 58) w1 #[] 0 (by omega) (by simp) (by simp)
        exact this.alloc _
    have hbN := alloc_ (alloc_ hb1 (.cells #[] 58)) (.cells #[.int .i64 (z0.length : Int), .slice (some ⟨w1.heap.size, 0, none⟩) 0 0] 54)
    refine (oddEvenZ_any w.heap.size (w1.heap.size + 1) z0.length _ (by exact hN) (by omega)).mono ?_
    rintro e w2 ⟨rfl, hN2, hb2⟩
    have hb2 := Below.trans hbN hb2
    clear hN hbN
    obtain ⟨v, hbl, how, hP⟩ := hN2
    obtain ⟨A', c', rfl⟩ := own_slice how
    have q0 := hbl.two
    have q0l := hbl.lt
    go_wp2_with fail
    go_region_held3 (fun w' => w'.cell? ⟨w1.heap.size + 1, 0, none⟩ = some (.int .i64 (z0.length : Int)) ∧ w'.cell? ⟨w1.heap.size + 1, 1, none⟩ = some (.slice A' (oddEvenL z0.length).length c')) (first | go_keep | (go_split_ands; refine ⟨?_, ?_⟩ <;> (rw [Below.cell b3 (by simp; omega)]; assumption))) ((go_at_call 42; refine (sorted_any A0 z0 c0 _ (by exact ((hx0.below hb2).more hb2.size)) (by omega)).mono ?_; rintro e w3 ⟨v3, rfl, o3, b3⟩; obtain ⟨A3, c3, rfl⟩ := own_slice o3))
    have b3 := undrew b3
    go_wp2_with fail
    exact bodyPost_ret (v := .tuple #[.slice A3 z0.length c3, .slice A' (oddEvenL z0.length).length c', .bool true]) (by simp [results, Try.results16, go_sem]) rfl ⟨A3, c3, A', c', rfl, own_base o3 (by simpa using hb2.size), own_below how b3 (Nat.le_refl _), bthen hb2 b3⟩
end Go.Proofs.Ytgjkhlecehjojaa
