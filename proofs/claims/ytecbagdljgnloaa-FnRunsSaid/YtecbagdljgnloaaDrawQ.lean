/- Draws of a list and a memory. -/
import Derived.Test.YtecbagdljgnloaaVL
namespace Go.Proofs.Ytecbagdljgnloaa
open Go.RowKit
set_option linter.unusedVariables false
set_option maxRecDepth 100000 in
set_option maxHeartbeats 1600000 in
theorem l15Memory_any (p : Nat) (A : Option Addr) (bs : List Nat) (c M : Nat) (w : World) (hc : Cur w p A bs c M) (hM : M ≤ 274877906944) :
    Calls Try.prog 41 #[.pointer (some ⟨p, 0, none⟩)] w fun e w' => ∃ m : Int, e = .returned (.int .i64 m) ∧ Cur w' p A bs c (M + 4) ∧ w.grownBy w' (some p) := by
  have HC := Lib.hid hc
  have hp := hc.lt
  clear hc
  have HC1 := Lib.hid (HC.out.alloc (.cells (ints [1, 2, 3, 4, 16, 17, 0]).toArray 3))
  have hG1 : w.grownBy (w.alloc (.cells (ints [1, 2, 3, 4, 16, 17, 0]).toArray 3)) (some p) := World.grownBy_alloc _ _ _
  have HD := Lib.hid (fun w' hg => lit_hold (w := w) (w' := w') (T := 3) (zs := [1, 2, 3, 4, 16, 17, 0]) hp hg)
  have HP := Lib.hid (pick_any p A bs c M 9 _ HC1.out (by omega) (by omega) (by omega))
  go_enter Try.func41, Try.ntmps41
  go_wp2_with fail
  refine HP.out.mono ?_
  rintro e w1 ⟨x, hx, rfl, hc1, hg1⟩
  have HC2 := Lib.hid hc1
  have hG2 := near_step hG1 hg1 (fun k hk => .inl hk.symm)
  clear hc1
  have hx9 : x < 9 := by omega
  have hk : (x : Int) / 4 = 0 ∨ (x : Int) / 4 = 1 ∨ (x : Int) / 4 = 2 := by omega
  clear hx
  rcases hk with e4 | e4 | e4
  · have hrd : ∀ w', w1.grownBy w' (some p) → Reads w' w1.heap.size 1 (some ⟨w.heap.size, 0, none⟩) 5 (ints [1, 2, 3, 4, 16]) := fun w' hg => ((HD.out w' (near_step hg1 hg (fun k hk => .inl hk.symm))).pre (m := 5) (by decide)).more hg1.size
    have HA := Lib.hid (among_any p A bs c (M + 2) (some ⟨w.heap.size, 0, none⟩) [1, 2, 3, 4, 16] 7 w1 HC2.out (by omega) (hrd _ (near_refl _ _)) (by decide) (by decide) hrd)
    go_wp2_with fail
    refine HA.out.mono ?_
    rintro e w2 ⟨z, -, rfl, hc3, hg3⟩
    have HC3 := Lib.hid hc3
    have HG3 := Lib.hid (near_step hG2 hg3 (fun k hk => .inl hk.symm))
    clear hc3
    go_wp2_with fail
    go_ret
    exact ⟨z, rfl, HC3.out.more (by omega), HG3.out⟩
  · have hrd : ∀ w', w1.grownBy w' (some p) → Reads w' w1.heap.size 1 (some ⟨w.heap.size, 0, none⟩) 6 (ints [1, 2, 3, 4, 16, 17]) := fun w' hg => ((HD.out w' (near_step hg1 hg (fun k hk => .inl hk.symm))).pre (m := 6) (by decide)).more hg1.size
    have HA := Lib.hid (among_any p A bs c (M + 2) (some ⟨w.heap.size, 0, none⟩) [1, 2, 3, 4, 16, 17] 7 w1 HC2.out (by omega) (hrd _ (near_refl _ _)) (by decide) (by decide) hrd)
    go_wp2_with fail
    refine HA.out.mono ?_
    rintro e w2 ⟨z, -, rfl, hc3, hg3⟩
    have HC3 := Lib.hid hc3
    have HG3 := Lib.hid (near_step hG2 hg3 (fun k hk => .inl hk.symm))
    clear hc3
    go_wp2_with fail
    go_ret
    exact ⟨z, rfl, HC3.out.more (by omega), HG3.out⟩
  · have hrd : ∀ w', w1.grownBy w' (some p) → Reads w' w1.heap.size 1 (some ⟨w.heap.size, 0, none⟩) 7 (ints [1, 2, 3, 4, 16, 17, 0]) := fun w' hg => ((HD.out w' (near_step hg1 hg (fun k hk => .inl hk.symm))).pre (m := 7) (by decide)).more hg1.size
    have HA := Lib.hid (among_any p A bs c (M + 2) (some ⟨w.heap.size, 0, none⟩) [1, 2, 3, 4, 16, 17, 0] 7 w1 HC2.out (by omega) (hrd _ (near_refl _ _)) (by decide) (by decide) hrd)
    go_wp2_with fail
    refine HA.out.mono ?_
    rintro e w2 ⟨z, -, rfl, hc3, hg3⟩
    have HC3 := Lib.hid hc3
    have HG3 := Lib.hid (near_step hG2 hg3 (fun k hk => .inl hk.symm))
    clear hc3
    go_wp2_with fail
    go_ret
    exact ⟨z, rfl, HC3.out.more (by omega), HG3.out⟩
/-- a call has returned a list of its own and a number -/
def GotLI (tI : TypeId) (w : World) (e : Ending) (w' : World) : Prop := ∃ A c zs, ∃ m : Int, e = .returned (.tuple #[.slice A zs.length c, .int .i64 m]) ∧ w'.ownsRow w.heap.size tI 1 (.slice A zs.length c) zs.length (ints zs) ∧ zs.length ≤ 65 ∧ Below w.heap.size w w'
set_option maxRecDepth 100000 in
set_option maxHeartbeats 1600000 in
theorem DrawReplacementSelection_any (A : Option Addr) (bs : List Nat) (c : Nat) (w : World) (hr : Reads w w.heap.size 1 A bs.length (byts bs)) (hb : ∀ b ∈ bs, b ≤ 255) (hl : bs.length ≤ 65536) :
    Calls Try.prog 28 #[.slice A bs.length c] w (GotLI 3 w) := by
  have HC0 := Lib.hid (cur_box (c := c) hr hb hl)
  have hB0 := alloc_ (Below.refl w.heap.size w) (.cells #[.slice A bs.length c, .int .i64 0, .int .u64 0] 53)
  clear hr hb
  go_enter Try.func28, Try.ntmps28
  go_wp2_with fail
  refine (anyInts_any w.heap.size A bs c 0 _ HC0.out (by omega)).mono ?_
  rintro e w1 ⟨v, zs, rfl, hO1, hl1, hs1, hc1, hg1⟩
  have hB1 := hB0.trans (below_near hg1 (Nat.le_refl _) hB0.size)
  have HC1 := Lib.hid hc1
  have hO1' := own_base hO1 hB0.size
  clear hc1 hO1 hs1 hg1
  obtain ⟨AV, CV, rfl⟩ := own_slice hO1'
  go_wp2_with fail
  refine (l15Memory_any w.heap.size A bs c _ _ HC1.out (by omega)).mono ?_
  rintro e w2 ⟨m, rfl, hc2, hg2⟩
  have HO2 := Lib.hid (Cur.row HC1.out hO1' hg2 (by decide))
  have HB2 := Lib.hid (hB1.trans (below_near hg2 (Nat.le_refl _) hB1.size))
  clear hc2 hO1' hg2 hB1
  go_wp2_with fail
  exact bodyPost_ret (v := .tuple #[.slice AV zs.length CV, .int .i64 m]) (by simp [results, Try.results28, go_sem]) rfl ⟨AV, CV, zs, m, rfl, HO2.out, hl1, HB2.out⟩
end Go.Proofs.Ytecbagdljgnloaa
