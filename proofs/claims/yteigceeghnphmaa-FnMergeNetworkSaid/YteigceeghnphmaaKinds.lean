/- CompareKinds: the program's and the reference's function. -/
import Derived.Test.YteigceeghnphmaaBuildN
import Derived.Test.YteigceeghnphmaaHold
namespace Go.Proofs.Yteigceeghnphmaa
open Go.RowKit
set_option linter.unusedVariables false
def ckT (W : Int) (m : Nat) : List Int := (List.range m).map fun i : Nat => ((bnV ((i : Int) + 1) W).length : Int)
theorem ckT_succ (W : Int) (m : Nat) : ckT W (m + 1) = ckT W m ++ [((bnV ((m : Int) + 1) W).length : Int)] := by simp [ckT, List.range_succ]
@[simp] theorem ckT_len (W : Int) (m : Nat) : (ckT W m).length = m := by simp [ckT]
def ckOk (W : Int) : Bool := inB W 1 16
def ckV (W : Int) : List Int := if ckOk W then ckT W 4 else []
theorem ck_len (W : Int) : (ckV W).length ≤ 4 := by unfold ckV; split <;> simp
set_option maxRecDepth 100000 in
set_option maxHeartbeats 1600000 in
theorem CompareKinds_any (W : Int) (w : World) :
    Calls Try.prog 41 #[.int .i64 W] w fun e w' => ∃ A c, e = .returned (.tuple #[.slice A (ckV W).length c, .bool (ckOk W)]) ∧
      w'.ownsRow w.heap.size 3 1 (.slice A (ckV W).length c) (ckV W).length (ints (ckV W)) ∧ Below w.heap.size w w' := by
  cases hok : ckOk W
  · rw [show ckV W = [] from by simp [ckV, hok]]
    have HI := Lib.hid (show inB W 1 16 = false from hok); clear hok
    go_enter Try.func41, Try.ntmps41
    go_wp2_with (go_at_call 60; refine (in_any _ _ _ _).mono ?_; rintro e w' ⟨rfl, rfl⟩; rw [HI.out])
    refine bodyPost_ret (v := .tuple #[.slice none 0 0, .bool false]) (by simp [results, Try.results41, go_sem]) rfl ⟨none, 0, rfl, World.ownsRow_nil _ _ _ _, Below.refl _ _⟩
  · rw [show ckV W = ckT W 4 from by simp [ckV, hok]]
    have HI := Lib.hid (show inB W 1 16 = true from hok); clear hok
    obtain ⟨i0, hi, hz0, hz1, hz2⟩ := info_parts (show (Try.prog.info? 3).map (fun i => (i.zero, i.size, i.bytes)) = some (some (.int .i64 0), 1, 8) by kernel_rfl)
    have ho1 := World.ownsRow_made (base := w.heap.size) (size := 1) (e := 3) w #[] 0 (Nat.le_refl _) (by simp) (by simp)
    have hb1 := alloc_ (Below.refl w.heap.size w) (.cells #[] 3)
    go_enter Try.func41, Try.ntmps41
    go_wp2_with (go_at_call 60; refine (in_any _ _ _ _).mono ?_; rintro e w' ⟨rfl, rfl⟩; rw [HI.out])
    go_loopw [4, 5] (fun o i wr => ∃ m : Nat, m ≤ 4 ∧ i = .int .i64 ((m : Int) + 1) ∧ Below w.heap.size w wr ∧ wr.ownsRow w.heap.size 3 1 o m (ints (ckT W m))) (fun _ i _ => 5 - (intOf i).toNat)
    case atStart => exact ⟨0, by omega, rfl, hb1, ho1⟩
    case round =>
      clear ho1 hb1
      obtain ⟨m, hm, rfl, hb, hown⟩ := hrel
      by_cases hlt : m < 4
      · have hI : (m : Int) + 1 ≤ 4 := by omega
        have hst := ckT_succ W m
        have HS := Lib.hid hst; clear hst
        go_wp2_with fail
        refine (BuildNetwork_any ((m : Int) + 1) W _).mono ?_
        rintro e w1 ⟨A, c, rfl, own1, hb1⟩
        have hb2 := bthen hb hb1
        have hown2 := own_below hown hb1 (Nat.le_refl _)
        clear own1
        have hbl := bn_len ((m : Int) + 1) W
        generalize (bnV ((m : Int) + 1) W).length = L at HS hbl ⊢
        generalize bnW ((m : Int) + 1) W = V
        generalize bnOk ((m : Int) + 1) W = K
        obtain ⟨n0, n1⟩ := (Blk.new w1 26 #[.int .i64 V, .slice A L c]).two
        have hbs := hb2.size
        go_wp2_with (at_builtin; refine wpList_push' _ rfl _ _ 33 rfl w.heap.size 3 i0 _ 1 8 Try.underlying33 hi hz0 hz1 hz2 rfl (by decide) u4 _ _ rfl (World.ownsRow.alloc (World.ownsRow.alloc hown2 _) _) #[.int .i64 L] (w1.heap.size + 1) rfl (blk_new_at (by simp)) rfl (by simp [Value.oneCell']) (by omega) (by unfold maxLen; omega) (by simp; omega) ?_; intro g1 k1 w2 hown1 hg1 hb3 hat3)
        go_roundw
        case rel => exact ⟨m + 1, by omega, by go_num, (alloc_ (alloc_ hb2 _) _).trans hb3, by rw [HS.out]; simpa [ints] using hown1⟩
        case measure => simp [intOf]; omega
      · obtain rfl : m = 4 := by omega
        obtain ⟨G, g, rfl⟩ := own_slice hown
        have hl4 := ckT_len W 4
        have HL := Lib.hid hl4; clear hl4
        go_wp2_with fail
        refine bodyPost_ret (v := .tuple #[.slice G 4 g, .bool true]) (by simp [results, Try.results41, go_sem]) rfl ?_
        rw [HL.out]
        exact ⟨G, g, rfl, hown, hb⟩
set_option maxRecDepth 100000 in
set_option maxHeartbeats 1600000 in
theorem sCompareKinds_any (W : Int) (w : World) :
    Calls Try.prog 42 #[.int .i64 W] w fun e w' => ∃ A c, e = .returned (.tuple #[.slice A (ckV W).length c, .bool (ckOk W)]) ∧
      w'.ownsRow w.heap.size 3 1 (.slice A (ckV W).length c) (ckV W).length (ints (ckV W)) ∧ Below w.heap.size w w' := by
  cases hok : ckOk W
  · rw [show ckV W = [] from by simp [ckV, hok]]
    have HI := Lib.hid (show inB W 1 16 = false from hok); clear hok
    go_enter Try.func42, Try.ntmps42
    go_wp2_with (go_at_call 62; refine (l1In_any _ _ _ _).mono ?_; rintro e w' ⟨rfl, rfl⟩; rw [HI.out])
    refine bodyPost_ret (v := .tuple #[.slice (some ⟨w.heap.size, 0, none⟩) 0 0, .bool false]) (by simp [results, Try.results42, go_sem]) rfl ⟨some ⟨w.heap.size, 0, none⟩, 0, rfl, World.ownsRow_made w #[] 0 (Nat.le_refl _) (by simp) (by simp), alloc_ (Below.refl _ _) _⟩
  · rw [show ckV W = ckT W 4 from by simp [ckV, hok]]
    have HI := Lib.hid (show inB W 1 16 = true from hok); clear hok
    obtain ⟨i0, hi, hz0, hz1, hz2⟩ := info_parts (show (Try.prog.info? 3).map (fun i => (i.zero, i.size, i.bytes)) = some (some (.int .i64 0), 1, 8) by kernel_rfl)
    have ho1 := World.ownsRow_made (base := w.heap.size) (size := 1) (e := 3) w #[] 0 (Nat.le_refl _) (by simp) (by simp)
    have hb1 := alloc_ (Below.refl w.heap.size w) (.cells #[] 3)
    go_enter Try.func42, Try.ntmps42
    go_wp2_with (go_at_call 62; refine (l1In_any _ _ _ _).mono ?_; rintro e w' ⟨rfl, rfl⟩; rw [HI.out])
    go_loopw [4, 5] (fun o i wr => ∃ m : Nat, m ≤ 4 ∧ i = .int .i64 ((m : Int) + 1) ∧ Below w.heap.size w wr ∧ wr.ownsRow w.heap.size 3 1 o m (ints (ckT W m))) (fun _ i _ => 5 - (intOf i).toNat)
    case atStart => exact ⟨0, by omega, rfl, hb1, ho1⟩
    case round =>
      clear ho1 hb1
      obtain ⟨m, hm, rfl, hb, hown⟩ := hrel
      by_cases hlt : m < 4
      · have hI : (m : Int) + 1 ≤ 4 := by omega
        have hst := ckT_succ W m
        have HS := Lib.hid hst; clear hst
        go_wp2_with fail
        refine (sBuildNetwork_any ((m : Int) + 1) W _).mono ?_
        rintro e w1 ⟨A, c, rfl, own1, hb1⟩
        have hb2 := bthen hb hb1
        have hown2 := own_below hown hb1 (Nat.le_refl _)
        clear own1
        have hbl := bn_len ((m : Int) + 1) W
        generalize (bnV ((m : Int) + 1) W).length = L at HS hbl ⊢
        generalize bnW ((m : Int) + 1) W = V
        generalize bnOk ((m : Int) + 1) W = K
        obtain ⟨n0, n1⟩ := (Blk.new w1 26 #[.int .i64 V, .slice A L c]).two
        have hbs := hb2.size
        go_wp2_with (at_builtin; refine wpList_push' _ rfl _ _ 33 rfl w.heap.size 3 i0 _ 1 8 Try.underlying33 hi hz0 hz1 hz2 rfl (by decide) u4 _ _ rfl (World.ownsRow.alloc (World.ownsRow.alloc hown2 _) _) #[.int .i64 L] (w1.heap.size + 1) rfl (blk_new_at (by simp)) rfl (by simp [Value.oneCell']) (by omega) (by unfold maxLen; omega) (by simp; omega) ?_; intro g1 k1 w2 hown1 hg1 hb3 hat3)
        go_roundw
        case rel => exact ⟨m + 1, by omega, by go_num, (alloc_ (alloc_ hb2 _) _).trans hb3, by rw [HS.out]; simpa [ints] using hown1⟩
        case measure => simp [intOf]; omega
      · obtain rfl : m = 4 := by omega
        obtain ⟨G, g, rfl⟩ := own_slice hown
        have hl4 := ckT_len W 4
        have HL := Lib.hid hl4; clear hl4
        go_wp2_with fail
        refine bodyPost_ret (v := .tuple #[.slice G 4 g, .bool true]) (by simp [results, Try.results42, go_sem]) rfl ?_
        rw [HL.out]
        exact ⟨G, g, rfl, hown, hb⟩
end Go.Proofs.Yteigceeghnphmaa
