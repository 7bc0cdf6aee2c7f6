/- BuildNetwork: the program's and the reference's function. -/
import Derived.Test.YtkhfilkikpiepaaBuildBubble
import Derived.Test.YtkhfilkikpiepaaBuildOddEven
import Derived.Test.YtkhfilkikpiepaaBuildBatcher
import Derived.Test.YtkhfilkikpiepaaBuildBitonic
namespace Go.Proofs.Ytkhfilkikpiepaa
open Go.RowKit
set_option linter.unusedVariables false
/-- a power of two -/
def pw (n : Int) : Bool := bits .and .i64 n (n - 1) == 0
def bnKind (k W : Int) : Bool := (k == 1) || ((k == 2) || ((k == 3) || ((k == 4) && pw W)))
def bnOk (k W : Int) : Bool := inB W 1 16 && bnKind k W
def bnL (k : Int) (W : Nat) : List (Int × Int) := if k = 1 then bubbleL W else if k = 2 then oddEvenL W else if k = 3 then batcherL W else bitonicL W
def bnW (k W : Int) : Int := if bnOk k W then W else 0
def bnV (k W : Int) : List (Int × Int) := if bnOk k W then bnL k W.toNat else []
theorem bn_len (k W : Int) : (bnV k W).length ≤ 4096 := by
  unfold bnV
  split
  · rename_i h
    simp only [bnOk, Bool.and_eq_true] at h
    have ⟨h1, h2⟩ := inB_iff.1 h.1
    unfold bnL
    split
    · exact bubbleL_len _ (by omega)
    · split
      · exact oddEvenL_len _ (by omega)
      · split
        · exact batcherL_len _ (by omega)
        · exact bitonicL_len _ (by omega)
  · simp
theorem bn_off {k W : Int} (h : bnOk k W = false) : bnV k W = [] ∧ bnW k W = 0 := by simp [bnV, bnW, h]
theorem bn_on {k W : Int} (h : bnOk k W = true) : bnV k W = bnL k W.toNat ∧ bnW k W = W := by simp [bnV, bnW, h]
theorem bn_cases (k W : Int) : (inB W 1 16 = false) ∨ (inB W 1 16 = true ∧ (k = 1 ∨ k = 2 ∨ k = 3 ∨ (k = 4 ∧ pw W = true) ∨ (k = 4 ∧ pw W = false) ∨ ((k == 1) = false ∧ (k == 2) = false ∧ (k == 3) = false ∧ (k == 4) = false))) := by
  cases h : inB W 1 16
  · exact .inl rfl
  · refine .inr ⟨rfl, ?_⟩
    by_cases h1 : k = 1
    · exact .inl h1
    by_cases h2 : k = 2
    · exact .inr (.inl h2)
    by_cases h3 : k = 3
    · exact .inr (.inr (.inl h3))
    by_cases h4 : k = 4
    · cases hp : pw W
      · exact .inr (.inr (.inr (.inr (.inl ⟨h4, rfl⟩))))
      · exact .inr (.inr (.inr (.inl ⟨h4, rfl⟩)))
    · exact .inr (.inr (.inr (.inr (.inr ⟨by simpa using h1, by simpa using h2, by simpa using h3, by simpa using h4⟩))))
set_option maxRecDepth 100000 in
set_option maxHeartbeats 1600000 in
theorem sBuildNetwork_any (k W : Int) (w : World) :
    Calls Try.prog 35 #[.int .i64 k, .int .i64 W] w fun e w' => ∃ A c, e = .returned (.tuple #[.agg #[.int .i64 (bnW k W), .slice A (bnV k W).length c], .bool (bnOk k W)]) ∧
      w'.ownsRow w.heap.size 54 2 (.slice A (bnV k W).length c) (bnV k W).length (cmps (bnV k W)) ∧ Below w.heap.size w w' := by
  rcases bn_cases k W with hin | ⟨hin, hc⟩
  · have hk : bnOk k W = false := by simp [bnOk, hin]
    obtain ⟨hV, hW⟩ := bn_off hk
    rw [hV, hW, hk]
    clear hV hW
    have HI := Lib.hid hin; clear hin hk
    go_enter Try.func35, Try.ntmps35
    go_wp2_with (go_at_call 42; refine (l1In_any _ _ _ _).mono ?_; rintro e w' ⟨rfl, rfl⟩; rw [HI.out])
    refine bodyPost_ret (v := .tuple #[.agg #[.int .i64 0, .slice none 0 0], .bool false]) (by simp [results, Try.results35, go_sem]) rfl ⟨none, 0, rfl, World.ownsRow_nil _ _ _ _, by go_grown⟩
  have ⟨hw1, hw2⟩ := inB_iff.1 hin
  obtain ⟨n, rfl⟩ := Int.eq_ofNat_of_zero_le (show 0 ≤ W by omega)
  have hn1 : 1 ≤ n := by omega
  have hn16 : n ≤ 16 := by omega
  rcases hc with rfl | rfl | rfl | ⟨rfl, hp⟩ | ⟨rfl, hp⟩ | ⟨h1, h2, h3, h4⟩
  · have hk : bnOk 1 n = true := by simp [bnOk, hin, bnKind]
    obtain ⟨hV, hW⟩ := bn_on hk
    have hV' : bnV 1 n = bubbleL n := by rw [hV, Int.toNat_natCast]; simp [bnL]
    have HV := Lib.hid hV'; clear hV' hV
    have HW := Lib.hid hW; clear hW
    have HK := Lib.hid hk; clear hk
    have HI := Lib.hid hin; clear hin
    have P1 := alloc_ (alloc_ (Below.refl w.heap.size w) (.cells #[.int .i64 0, .slice none 0 0] 28)) (.cells #[.int .i64 n, .slice none 0 0] 28)
    have P2 := (Blk.new w 28 #[.int .i64 0, .slice none 0 0]).alloc (.cells #[.int .i64 n, .slice none 0 0] 28)
    have P5 : Blk ((w.alloc (.cells #[.int .i64 0, .slice none 0 0] 28)).alloc (.cells #[.int .i64 n, .slice none 0 0] 28)) (w.heap.size + 1) 28 #[.int .i64 n, .slice none 0 0] := blk_new_at (by simp)
    go_enter Try.func35, Try.ntmps35
    go_wp2_with (go_at_call 42; refine (l1In_any _ _ _ _).mono ?_; rintro e w' ⟨rfl, rfl⟩; rw [HI.out])
    generalize (w.alloc (.cells #[.int .i64 0, .slice none 0 0] 28)).alloc (.cells #[.int .i64 n, .slice none 0 0] 28) = wz at P1 P2 P5 ⊢
    refine (sbubble_any n _ hn1 (by omega)).mono ?_
    rintro e w1 ⟨v1, rfl, hown, hB1⟩
    obtain ⟨G, g, rfl⟩ := own_slice hown
    have hbw := bthen P1 hB1
    have hbz := P2.below_ hB1
    have hbn := P5.below_ hB1
    have hwz := P1.size
    have hown := own_base (base' := w.heap.size) hown hwz
    clear P1 P2 P5 hB1
    obtain ⟨y0, y1⟩ := hbn.two
    have g0 := hbn.frozen 1
    have yl := hbn.lt
    have hblk := hbn.set_ 1 (.slice G (bubbleL n).length g)
    have hown := own_setCell hown (p := ⟨w.heap.size + 1, 1, none⟩) (own_blk_ne hown hbn (by decide)) (.slice G (bubbleL n).length g)
    have hbz := hbz.far (p := ⟨w.heap.size + 1, 1, none⟩) (by simp) (.slice G (bubbleL n).length g)
    have hbw := hbw.setCell (p := ⟨w.heap.size + 1, 1, none⟩) (by simp) (.slice G (bubbleL n).length g)
    have hblk : Blk (w1.setCell ⟨w.heap.size + 1, 1, none⟩ (.slice G (bubbleL n).length g)) (w.heap.size + 1) 28 #[.int .i64 n, .slice G (bubbleL n).length g] := hblk
    go_upto_region 13 with fail
    generalize w1.setCell ⟨w.heap.size + 1, 1, none⟩ (.slice G (bubbleL n).length g) = w2 at hblk hown hbz hbw ⊢
    obtain ⟨c0, c1⟩ := hblk.two
    obtain ⟨d0, d1⟩ := hbz.two
    have f0 := hbz.frozen 0
    have f1 := hbz.frozen 1
    have hl2 := hblk.lt
    have hlz := hbz.lt
    have o1 := own_setCell hown (p := ⟨w.heap.size, 0, none⟩) (own_blk_ne hown hbz (by decide)) (.int .i64 n)
    have o2 := own_setCell o1 (p := ⟨w.heap.size, 1, none⟩) (own_blk_ne hown hbz (by decide)) (.slice G (bubbleL n).length g)
    have O2 := Lib.hid (own_base (base' := w.heap.size) o2 (by omega)); clear o1 o2
    have hbe := Below.setCell (Below.setCell hbw (p := ⟨w.heap.size, 0, none⟩) (by simp) (.int .i64 n)) (p := ⟨w.heap.size, 1, none⟩) (by simp) (.slice G (bubbleL n).length g)
    obtain ⟨r0, r1⟩ := ((hbz.set_ 0 (.int .i64 n)).set_ 1 (.slice G (bubbleL n).length g)).two
    have R0 := Lib.hid r0; clear r0
    have R1 := Lib.hid r1; clear r1
    clear hown hblk
    go_wp2_with fail
    refine bodyPost_ret (v := .tuple #[.agg #[.int .i64 n, .slice G (bubbleL n).length g], .bool true]) (by simp [results, Try.results35, go_sem, R0.out, R1.out]) rfl ?_
    rw [HV.out, HW.out, HK.out]
    exact ⟨G, g, rfl, O2.out, hbe⟩
  · have hk : bnOk 2 n = true := by simp [bnOk, hin, bnKind]
    obtain ⟨hV, hW⟩ := bn_on hk
    have hV' : bnV 2 n = oddEvenL n := by rw [hV, Int.toNat_natCast]; simp [bnL]
    have HV := Lib.hid hV'; clear hV' hV
    have HW := Lib.hid hW; clear hW
    have HK := Lib.hid hk; clear hk
    have HI := Lib.hid hin; clear hin
    have P1 := alloc_ (alloc_ (Below.refl w.heap.size w) (.cells #[.int .i64 0, .slice none 0 0] 28)) (.cells #[.int .i64 n, .slice none 0 0] 28)
    have P2 := (Blk.new w 28 #[.int .i64 0, .slice none 0 0]).alloc (.cells #[.int .i64 n, .slice none 0 0] 28)
    have P5 : Blk ((w.alloc (.cells #[.int .i64 0, .slice none 0 0] 28)).alloc (.cells #[.int .i64 n, .slice none 0 0] 28)) (w.heap.size + 1) 28 #[.int .i64 n, .slice none 0 0] := blk_new_at (by simp)
    go_enter Try.func35, Try.ntmps35
    go_wp2_with (go_at_call 42; refine (l1In_any _ _ _ _).mono ?_; rintro e w' ⟨rfl, rfl⟩; rw [HI.out])
    generalize (w.alloc (.cells #[.int .i64 0, .slice none 0 0] 28)).alloc (.cells #[.int .i64 n, .slice none 0 0] 28) = wz at P1 P2 P5 ⊢
    refine (soddEven_any n _ hn1 (by omega)).mono ?_
    rintro e w1 ⟨v1, rfl, hown, hB1⟩
    obtain ⟨G, g, rfl⟩ := own_slice hown
    have hbw := bthen P1 hB1
    have hbz := P2.below_ hB1
    have hbn := P5.below_ hB1
    have hwz := P1.size
    have hown := own_base (base' := w.heap.size) hown hwz
    clear P1 P2 P5 hB1
    obtain ⟨y0, y1⟩ := hbn.two
    have g0 := hbn.frozen 1
    have yl := hbn.lt
    have hblk := hbn.set_ 1 (.slice G (oddEvenL n).length g)
    have hown := own_setCell hown (p := ⟨w.heap.size + 1, 1, none⟩) (own_blk_ne hown hbn (by decide)) (.slice G (oddEvenL n).length g)
    have hbz := hbz.far (p := ⟨w.heap.size + 1, 1, none⟩) (by simp) (.slice G (oddEvenL n).length g)
    have hbw := hbw.setCell (p := ⟨w.heap.size + 1, 1, none⟩) (by simp) (.slice G (oddEvenL n).length g)
    have hblk : Blk (w1.setCell ⟨w.heap.size + 1, 1, none⟩ (.slice G (oddEvenL n).length g)) (w.heap.size + 1) 28 #[.int .i64 n, .slice G (oddEvenL n).length g] := hblk
    go_upto_region 13 with fail
    generalize w1.setCell ⟨w.heap.size + 1, 1, none⟩ (.slice G (oddEvenL n).length g) = w2 at hblk hown hbz hbw ⊢
    obtain ⟨c0, c1⟩ := hblk.two
    obtain ⟨d0, d1⟩ := hbz.two
    have f0 := hbz.frozen 0
    have f1 := hbz.frozen 1
    have hl2 := hblk.lt
    have hlz := hbz.lt
    have o1 := own_setCell hown (p := ⟨w.heap.size, 0, none⟩) (own_blk_ne hown hbz (by decide)) (.int .i64 n)
    have o2 := own_setCell o1 (p := ⟨w.heap.size, 1, none⟩) (own_blk_ne hown hbz (by decide)) (.slice G (oddEvenL n).length g)
    have O2 := Lib.hid (own_base (base' := w.heap.size) o2 (by omega)); clear o1 o2
    have hbe := Below.setCell (Below.setCell hbw (p := ⟨w.heap.size, 0, none⟩) (by simp) (.int .i64 n)) (p := ⟨w.heap.size, 1, none⟩) (by simp) (.slice G (oddEvenL n).length g)
    obtain ⟨r0, r1⟩ := ((hbz.set_ 0 (.int .i64 n)).set_ 1 (.slice G (oddEvenL n).length g)).two
    have R0 := Lib.hid r0; clear r0
    have R1 := Lib.hid r1; clear r1
    clear hown hblk
    go_wp2_with fail
    refine bodyPost_ret (v := .tuple #[.agg #[.int .i64 n, .slice G (oddEvenL n).length g], .bool true]) (by simp [results, Try.results35, go_sem, R0.out, R1.out]) rfl ?_
    rw [HV.out, HW.out, HK.out]
    exact ⟨G, g, rfl, O2.out, hbe⟩
  · have hk : bnOk 3 n = true := by simp [bnOk, hin, bnKind]
    obtain ⟨hV, hW⟩ := bn_on hk
    have hV' : bnV 3 n = batcherL n := by rw [hV, Int.toNat_natCast]; simp [bnL]
    have HV := Lib.hid hV'; clear hV' hV
    have HW := Lib.hid hW; clear hW
    have HK := Lib.hid hk; clear hk
    have HI := Lib.hid hin; clear hin
    have P1 := alloc_ (alloc_ (Below.refl w.heap.size w) (.cells #[.int .i64 0, .slice none 0 0] 28)) (.cells #[.int .i64 n, .slice none 0 0] 28)
    have P2 := (Blk.new w 28 #[.int .i64 0, .slice none 0 0]).alloc (.cells #[.int .i64 n, .slice none 0 0] 28)
    have P5 : Blk ((w.alloc (.cells #[.int .i64 0, .slice none 0 0] 28)).alloc (.cells #[.int .i64 n, .slice none 0 0] 28)) (w.heap.size + 1) 28 #[.int .i64 n, .slice none 0 0] := blk_new_at (by simp)
    go_enter Try.func35, Try.ntmps35
    go_wp2_with (go_at_call 42; refine (l1In_any _ _ _ _).mono ?_; rintro e w' ⟨rfl, rfl⟩; rw [HI.out])
    generalize (w.alloc (.cells #[.int .i64 0, .slice none 0 0] 28)).alloc (.cells #[.int .i64 n, .slice none 0 0] 28) = wz at P1 P2 P5 ⊢
    refine (sbatcher_any n _ hn1 (by omega)).mono ?_
    rintro e w1 ⟨v1, rfl, hown, hB1⟩
    obtain ⟨G, g, rfl⟩ := own_slice hown
    have hbw := bthen P1 hB1
    have hbz := P2.below_ hB1
    have hbn := P5.below_ hB1
    have hwz := P1.size
    have hown := own_base (base' := w.heap.size) hown hwz
    clear P1 P2 P5 hB1
    obtain ⟨y0, y1⟩ := hbn.two
    have g0 := hbn.frozen 1
    have yl := hbn.lt
    have hblk := hbn.set_ 1 (.slice G (batcherL n).length g)
    have hown := own_setCell hown (p := ⟨w.heap.size + 1, 1, none⟩) (own_blk_ne hown hbn (by decide)) (.slice G (batcherL n).length g)
    have hbz := hbz.far (p := ⟨w.heap.size + 1, 1, none⟩) (by simp) (.slice G (batcherL n).length g)
    have hbw := hbw.setCell (p := ⟨w.heap.size + 1, 1, none⟩) (by simp) (.slice G (batcherL n).length g)
    have hblk : Blk (w1.setCell ⟨w.heap.size + 1, 1, none⟩ (.slice G (batcherL n).length g)) (w.heap.size + 1) 28 #[.int .i64 n, .slice G (batcherL n).length g] := hblk
    go_upto_region 13 with fail
    generalize w1.setCell ⟨w.heap.size + 1, 1, none⟩ (.slice G (batcherL n).length g) = w2 at hblk hown hbz hbw ⊢
    obtain ⟨c0, c1⟩ := hblk.two
    obtain ⟨d0, d1⟩ := hbz.two
    have f0 := hbz.frozen 0
    have f1 := hbz.frozen 1
    have hl2 := hblk.lt
    have hlz := hbz.lt
    have o1 := own_setCell hown (p := ⟨w.heap.size, 0, none⟩) (own_blk_ne hown hbz (by decide)) (.int .i64 n)
    have o2 := own_setCell o1 (p := ⟨w.heap.size, 1, none⟩) (own_blk_ne hown hbz (by decide)) (.slice G (batcherL n).length g)
    have O2 := Lib.hid (own_base (base' := w.heap.size) o2 (by omega)); clear o1 o2
    have hbe := Below.setCell (Below.setCell hbw (p := ⟨w.heap.size, 0, none⟩) (by simp) (.int .i64 n)) (p := ⟨w.heap.size, 1, none⟩) (by simp) (.slice G (batcherL n).length g)
    obtain ⟨r0, r1⟩ := ((hbz.set_ 0 (.int .i64 n)).set_ 1 (.slice G (batcherL n).length g)).two
    have R0 := Lib.hid r0; clear r0
    have R1 := Lib.hid r1; clear r1
    clear hown hblk
    go_wp2_with fail
    refine bodyPost_ret (v := .tuple #[.agg #[.int .i64 n, .slice G (batcherL n).length g], .bool true]) (by simp [results, Try.results35, go_sem, R0.out, R1.out]) rfl ?_
    rw [HV.out, HW.out, HK.out]
    exact ⟨G, g, rfl, O2.out, hbe⟩
  · have hk : bnOk 4 n = true := by simp [bnOk, hin, bnKind, hp]
    obtain ⟨hV, hW⟩ := bn_on hk
    have hV' : bnV 4 n = bitonicL n := by rw [hV, Int.toNat_natCast]; simp [bnL]
    have HV := Lib.hid hV'; clear hV' hV
    have HW := Lib.hid hW; clear hW
    have HK := Lib.hid hk; clear hk
    have HI := Lib.hid hin; clear hin
    have HPW := Lib.hid hp
    have HPB : (bits .and .i64 (n : Int) ((n : Int) - 1) == 0) = true := hp
    clear hp
    have P1 := alloc_ (alloc_ (Below.refl w.heap.size w) (.cells #[.int .i64 0, .slice none 0 0] 28)) (.cells #[.int .i64 n, .slice none 0 0] 28)
    have P2 := (Blk.new w 28 #[.int .i64 0, .slice none 0 0]).alloc (.cells #[.int .i64 n, .slice none 0 0] 28)
    have P5 : Blk ((w.alloc (.cells #[.int .i64 0, .slice none 0 0] 28)).alloc (.cells #[.int .i64 n, .slice none 0 0] 28)) (w.heap.size + 1) 28 #[.int .i64 n, .slice none 0 0] := blk_new_at (by simp)
    go_enter Try.func35, Try.ntmps35
    go_wp2_with (go_at_call 42; refine (l1In_any _ _ _ _).mono ?_; rintro e w' ⟨rfl, rfl⟩; rw [HI.out])
    generalize (w.alloc (.cells #[.int .i64 0, .slice none 0 0] 28)).alloc (.cells #[.int .i64 n, .slice none 0 0] 28) = wz at P1 P2 P5 ⊢
    refine (sbitonic_any n _ hn1 (by omega)).mono ?_
    rintro e w1 ⟨v1, rfl, hown, hB1⟩
    obtain ⟨G, g, rfl⟩ := own_slice hown
    have hbw := bthen P1 hB1
    have hbz := P2.below_ hB1
    have hbn := P5.below_ hB1
    have hwz := P1.size
    have hown := own_base (base' := w.heap.size) hown hwz
    clear P1 P2 P5 hB1
    obtain ⟨y0, y1⟩ := hbn.two
    have g0 := hbn.frozen 1
    have yl := hbn.lt
    have hblk := hbn.set_ 1 (.slice G (bitonicL n).length g)
    have hown := own_setCell hown (p := ⟨w.heap.size + 1, 1, none⟩) (own_blk_ne hown hbn (by decide)) (.slice G (bitonicL n).length g)
    have hbz := hbz.far (p := ⟨w.heap.size + 1, 1, none⟩) (by simp) (.slice G (bitonicL n).length g)
    have hbw := hbw.setCell (p := ⟨w.heap.size + 1, 1, none⟩) (by simp) (.slice G (bitonicL n).length g)
    have hblk : Blk (w1.setCell ⟨w.heap.size + 1, 1, none⟩ (.slice G (bitonicL n).length g)) (w.heap.size + 1) 28 #[.int .i64 n, .slice G (bitonicL n).length g] := hblk
    go_upto_region 13 with fail
    generalize w1.setCell ⟨w.heap.size + 1, 1, none⟩ (.slice G (bitonicL n).length g) = w2 at hblk hown hbz hbw ⊢
    obtain ⟨c0, c1⟩ := hblk.two
    obtain ⟨d0, d1⟩ := hbz.two
    have f0 := hbz.frozen 0
    have f1 := hbz.frozen 1
    have hl2 := hblk.lt
    have hlz := hbz.lt
    have o1 := own_setCell hown (p := ⟨w.heap.size, 0, none⟩) (own_blk_ne hown hbz (by decide)) (.int .i64 n)
    have o2 := own_setCell o1 (p := ⟨w.heap.size, 1, none⟩) (own_blk_ne hown hbz (by decide)) (.slice G (bitonicL n).length g)
    have O2 := Lib.hid (own_base (base' := w.heap.size) o2 (by omega)); clear o1 o2
    have hbe := Below.setCell (Below.setCell hbw (p := ⟨w.heap.size, 0, none⟩) (by simp) (.int .i64 n)) (p := ⟨w.heap.size, 1, none⟩) (by simp) (.slice G (bitonicL n).length g)
    obtain ⟨r0, r1⟩ := ((hbz.set_ 0 (.int .i64 n)).set_ 1 (.slice G (bitonicL n).length g)).two
    have R0 := Lib.hid r0; clear r0
    have R1 := Lib.hid r1; clear r1
    clear hown hblk
    go_wp2_with fail
    refine bodyPost_ret (v := .tuple #[.agg #[.int .i64 n, .slice G (bitonicL n).length g], .bool true]) (by simp [results, Try.results35, go_sem, R0.out, R1.out]) rfl ?_
    rw [HV.out, HW.out, HK.out]
    exact ⟨G, g, rfl, O2.out, hbe⟩
  · have hk : bnOk 4 n = false := by simp [bnOk, hin, bnKind, hp]
    obtain ⟨hV, hW⟩ := bn_off hk
    rw [hV, hW, hk]
    clear hV hW hk
    have HI := Lib.hid hin; clear hin
    have HPB : (bits .and .i64 (n : Int) ((n : Int) - 1) == 0) = false := hp
    clear hp
    go_enter Try.func35, Try.ntmps35
    go_wp2_with (first | (go_at_call 42; refine (l1In_any _ _ _ _).mono ?_; rintro e w' ⟨rfl, rfl⟩; rw [HI.out]))
    refine bodyPost_ret (v := .tuple #[.agg #[.int .i64 0, .slice none 0 0], .bool false]) (by simp [results, Try.results35, go_sem]) rfl ⟨none, 0, rfl, World.ownsRow_nil _ _ _ _, by go_grown⟩
  · have hk : bnOk k n = false := by simp [bnOk, bnKind, h1, h2, h3, h4]
    obtain ⟨hV, hW⟩ := bn_off hk
    rw [hV, hW, hk]
    clear hV hW hk
    have HI := Lib.hid hin; clear hin
    go_enter Try.func35, Try.ntmps35
    go_wp2_with (go_at_call 42; refine (l1In_any _ _ _ _).mono ?_; rintro e w' ⟨rfl, rfl⟩; rw [HI.out])
    refine bodyPost_ret (v := .tuple #[.agg #[.int .i64 0, .slice none 0 0], .bool false]) (by simp [results, Try.results35, go_sem]) rfl ⟨none, 0, rfl, World.ownsRow_nil _ _ _ _, by go_grown⟩
end Go.Proofs.Ytkhfilkikpiepaa
