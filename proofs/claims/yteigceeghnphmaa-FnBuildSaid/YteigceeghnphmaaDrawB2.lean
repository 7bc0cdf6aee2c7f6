/- The draws of the law on the builders. -/
import Derived.Test.YteigceeghnphmaaDrawI
import Derived.Test.YteigceeghnphmaaVL
import Derived.Deep.DeepCutAuto
namespace Go.Proofs.Yteigceeghnphmaa
open Go.RowKit
set_option linter.unusedVariables false
def GotK (w : World) (e : Ending) (w' : World) : Prop := ∃ k W : Int, e = .returned (.tuple #[.int .i64 k, .int .i64 W]) ∧ Below w.heap.size w w'
theorem GotK.mk {w : World} {e : Ending} {w' : World} (h : ∃ k W : Int, e = .returned (.tuple #[.int .i64 k, .int .i64 W]) ∧ Below w.heap.size w w') : GotK w e w' := h
set_option maxRecDepth 100000 in
set_option maxHeartbeats 3200000 in
theorem DrawBuildNetwork_any (A : Option Addr) (bs : List Nat) (c : Nat) (w : World) (hr : Reads w w.heap.size 1 A bs.length (byts bs)) (hb : ∀ b ∈ bs, b ≤ 255) (hl : bs.length ≤ 65536) :
    Calls Try.prog 37 #[.slice A bs.length c] w (GotK w) := by
  have HC0 := Lib.hid (cur_box (c := c) hr hb hl)
  have hG0 : w.grownBy (w.alloc (.cells #[.slice A bs.length c, .int .i64 0, .int .u64 0] 73)) (some w.heap.size) := World.grownBy_alloc _ _ _
  clear hr hb
  go_enter Try.func37, Try.ntmps37
  go_wp2_with fail
  refine (one_any w.heap.size A bs c 0 12 _ HC0.out (by omega) (by omega) (by omega)).mono ?_
  rintro e w1 ⟨b, rfl, hc1, hg1⟩
  have hG1 := near_step hG0 hg1 (fun k hk => .inl hk.symm)
  have HC1 := Lib.hid hc1
  clear hc1 hG0 hg1
  cases b
  case true =>
    have hp4a := HC1.out.lt
    have HC5a := Lib.hid (HC1.out.alloc (.cells (ints [0, 1, 4, 5]).toArray 3))
    have hG5a := near_step hG1 (World.grownBy_alloc w1 (.cells (ints [0, 1, 4, 5]).toArray 3) (some w.heap.size)) (fun k hk => .inl hk.symm)
    have HDa := Lib.hid (fun w' hg => lit_hold (w := w1) (w' := w') (T := 3) (zs := [0, 1, 4, 5]) hp4a hg)
    have HAa := Lib.hid (among_any w.heap.size A bs c _ (some ⟨w1.heap.size, 0, none⟩) [0, 1, 4, 5] 4 _ HC5a.out (by omega) (HDa.out _ (near_refl _ _)) (by decide) (by decide) HDa.out)
    go_wp2_with fail
    refine HAa.out.mono ?_
    rintro e w2 ⟨za, hza, rfl, hc6, hg6⟩
    have hG6a := near_step hG5a hg6 (fun k hk => .inl hk.symm)
    have HC6a := Lib.hid hc6
    clear hc6 hG5a hg6 hza
    have hp4b := HC6a.out.lt
    have HC5b := Lib.hid (HC6a.out.alloc (.cells (ints [-1, 0, 17, 6]).toArray 3))
    have hG5b := near_step hG6a (World.grownBy_alloc w2 (.cells (ints [-1, 0, 17, 6]).toArray 3) (some w.heap.size)) (fun k hk => .inl hk.symm)
    have HDb := Lib.hid (fun w' hg => lit_hold (w := w2) (w' := w') (T := 3) (zs := [-1, 0, 17, 6]) hp4b hg)
    have HAb := Lib.hid (among_any w.heap.size A bs c _ (some ⟨w2.heap.size, 0, none⟩) [-1, 0, 17, 6] 4 _ HC5b.out (by omega) (HDb.out _ (near_refl _ _)) (by decide) (by decide) HDb.out)
    go_wp2_with fail
    refine HAb.out.mono ?_
    rintro e w3 ⟨zb, hzb, rfl, hc6, hg6⟩
    have hG6b := near_step hG5b hg6 (fun k hk => .inl hk.symm)
    have HC6b := Lib.hid hc6
    clear hc6 hG5b hg6 hzb
    go_wp2_with fail
    exact bodyPost_ret (v := .tuple #[.int .i64 za, .int .i64 zb]) (by simp [results, Try.results37, go_sem]) rfl (GotK.mk ⟨za, zb, rfl, below_near hG6b (Nat.le_refl _) (Nat.le_refl _)⟩)
  case false =>
    go_wp2_with fail
    refine (pick_any w.heap.size A bs c _ 4 _ HC1.out (by omega) (by omega) (by omega)).mono ?_
    rintro e w2 ⟨x, hx, rfl, hc6, hg6⟩
    have hG2 := near_step hG1 hg6 (fun k hk => .inl hk.symm)
    have HC2 := Lib.hid hc6
    clear hc6 hg6
    have hx3 : x ≤ 3 := by omega
    clear hx
    by_cases hx4 : x = 3
    · subst hx4
      have e4 : ((1 : Int) + ((3 : Nat) : Int) == 4) = true := rfl
      go_wp2_with fail
      refine (one_any w.heap.size A bs c _ 4 _ HC2.out (by omega) (by omega) (by omega)).mono ?_
      rintro e w3 ⟨b3, rfl, hc6, hg6⟩
      have hG3 := near_step hG2 hg6 (fun k hk => .inl hk.symm)
      have HC3 := Lib.hid hc6
      clear hc6 hg6
      cases b3
      case false =>
        go_wp2_with fail
        refine (pick_any w.heap.size A bs c _ 5 _ HC3.out (by omega) (by omega) (by omega)).mono ?_
        rintro e w4 ⟨y, hy, rfl, hc6, hg6⟩
        have hG4 := near_step hG3 hg6 (fun k hk => .inl hk.symm)
        have HC4 := Lib.hid hc6
        clear hc6 hg6
        obtain ⟨v, hv⟩ : ∃ v, IntKind.i64.wrap (2 ^ y) = v := ⟨_, rfl⟩
        have hy4 : y ≤ 4 := by omega
        clear hy
        go_wp2_with fail
        exact bodyPost_ret (v := .tuple #[.int .i64 4, .int .i64 v]) (by simp [results, Try.results37, go_sem]) rfl (GotK.mk ⟨_, _, rfl, below_near hG4 (Nat.le_refl _) (Nat.le_refl _)⟩)
      case true =>
        go_wp2_with fail
        refine (pick_any w.heap.size A bs c _ 16 _ HC3.out (by omega) (by omega) (by omega)).mono ?_
        rintro e w4 ⟨y, hy, rfl, hc6, hg6⟩
        have hG4 := near_step hG3 hg6 (fun k hk => .inl hk.symm)
        have HC4 := Lib.hid hc6
        clear hc6 hg6
        have hy4 : y ≤ 15 := by omega
        clear hy
        go_wp2_with fail
        exact bodyPost_ret (v := .tuple #[.int .i64 4, .int .i64 (1 + (y : Int))]) (by simp [results, Try.results37, go_sem]) rfl (GotK.mk ⟨_, _, rfl, below_near hG4 (Nat.le_refl _) (Nat.le_refl _)⟩)
    · have e4 : ((1 : Int) + (x : Int) == 4) = false := by rw [beq_eq_false_iff_ne]; omega
      go_wp2_with fail
      refine (pick_any w.heap.size A bs c _ 16 _ HC2.out (by omega) (by omega) (by omega)).mono ?_
      rintro e w4 ⟨y, hy, rfl, hc6, hg6⟩
      have hG4 := near_step hG2 hg6 (fun k hk => .inl hk.symm)
      have HC4 := Lib.hid hc6
      clear hc6 hg6
      have hy4 : y ≤ 15 := by omega
      clear hy
      go_wp2_with fail
      exact bodyPost_ret (v := .tuple #[.int .i64 (1 + (x : Int)), .int .i64 (1 + (y : Int))]) (by simp [results, Try.results37, go_sem]) rfl (GotK.mk ⟨_, _, rfl, below_near hG4 (Nat.le_refl _) (Nat.le_refl _)⟩)
set_option maxRecDepth 100000 in
theorem DrawCompareKinds_any (A : Option Addr) (bs : List Nat) (c : Nat) (w : World) (hr : Reads w w.heap.size 1 A bs.length (byts bs)) (hb : ∀ b ∈ bs, b ≤ 255) (hl : bs.length ≤ 65536) :
    Calls Try.prog 40 #[.slice A bs.length c] w fun e w' => ∃ z : Int, e = .returned (.int .i64 z) ∧ Below w.heap.size w w' := by
  have HC0 := Lib.hid (cur_box (c := c) hr hb hl)
  have hG0 : w.grownBy (w.alloc (.cells #[.slice A bs.length c, .int .i64 0, .int .u64 0] 73)) (some w.heap.size) := World.grownBy_alloc _ _ _
  clear hr hb
  go_enter Try.func40, Try.ntmps40
  go_wp2_with fail
  refine (pick_any w.heap.size A bs c 0 19 _ HC0.out (by omega) (by omega) (by omega)).mono ?_
  rintro e w1 ⟨x, hx, rfl, hc1, hg1⟩
  have hG1 := near_step hG0 hg1 (fun k hk => .inl hk.symm)
  have hx2 : x ≤ 18 := by omega
  clear hx
  go_wp2_with fail
  go_ret
  exact ⟨_, rfl, below_near hG1 (Nat.le_refl _) (Nat.le_refl _)⟩
end Go.Proofs.Yteigceeghnphmaa
