/- The draw of the law on merge costs. -/
import Derived.Test.YtphcfjdhichfkaaDrawI
import Derived.Test.YtphcfjdhichfkaaVL
import Derived.Deep.DeepCutAuto
namespace Go.Proofs.Ytphcfjdhichfkaa
open Go.RowKit
set_option linter.unusedVariables false
set_option maxRecDepth 100000 in
set_option maxHeartbeats 3200000 in
theorem DrawOptimalMergeCost_any (A : Option Addr) (bs : List Nat) (c : Nat) (w : World) (hr : Reads w w.heap.size 1 A bs.length (byts bs)) (hb : ∀ b ∈ bs, b ≤ 255) (hl : bs.length ≤ 65536) :
    Calls Try.prog 27 #[.slice A bs.length c] w (GotL 3 w fun zs => zs.length ≤ 66) := by
  obtain ⟨i0, hi, hz0, hz1, hz2⟩ := info_parts (show (Try.prog.info? 3).map (fun i => (i.zero, i.size, i.bytes)) = some (some (.int .i64 0), 1, 8) by kernel_rfl)
  have HC0 := Lib.hid (cur_box (c := c) hr hb hl)
  have hG0 : w.grownBy (w.alloc (.cells #[.slice A bs.length c, .int .i64 0, .int .u64 0] 66)) (some w.heap.size) := World.grownBy_alloc _ _ _
  clear hr hb
  go_enter Try.func27, Try.ntmps27
  go_wp2_with fail
  refine (pick_any w.heap.size A bs c 0 8 _ HC0.out (by omega) (by omega) (by omega)).mono ?_
  rintro e w1 ⟨x1, hx1, rfl, hc1, hg1⟩
  have hG1 := near_step hG0 hg1 (fun k hk => .inl hk.symm)
  have HC1 := Lib.hid hc1
  clear hc1 hG0 hg1
  go_wp2_with fail
  refine (one_any w.heap.size A bs c _ 30 _ HC1.out (by omega) (by omega) (by omega)).mono ?_
  rintro e w2 ⟨b, rfl, hc2, hg2⟩
  have hG2 := near_step hG1 hg2 (fun k hk => .inl hk.symm)
  have HC2 := Lib.hid hc2
  clear hc2 hG1 hg2
  go_upto_if 13 with (fail)
  go_cut [4] (fun nv wc => ∃ n : Nat, nv = .int .i64 (n : Nat) ∧ n ≤ 65 ∧ Hid (Cur wc w.heap.size A bs c 10) ∧ w.grownBy wc (some w.heap.size))
  case first =>
    cases b
    case false =>
      go_wp2_with fail
      go_meet
      exact ⟨x1, rfl, by omega, Lib.hid (HC2.out.more (by omega)), hG2⟩
    case true =>
      go_wp2_with fail
      refine (pick_any w.heap.size A bs c _ 2 _ HC2.out (by omega) (by omega) (by omega)).mono ?_
      rintro e w3 ⟨x3, hx3, rfl, hc3, hg3⟩
      have hG3 := near_step hG2 hg3 (fun k hk => .inl hk.symm)
      have HC3 := Lib.hid hc3
      have hx3b : (x3 : Int) ≤ 1 := by omega
      clear hc3
      go_wp2_with fail
      go_meet
      exact ⟨64 + x3, by go_num, by omega, Lib.hid (HC3.out.more (by omega)), hG3⟩
  case rest =>
    clear hG2
    obtain ⟨n, rfl, hn, HC3, hG3⟩ := hcut
    rename_i wc
    have hO3 := made_at (w := wc) (base := w.heap.size + 1) (g := wc.heap.size) (size := 1) (e := 3) (HC3.out.lt) rfl
    have HC4 := Lib.hid (HC3.out.alloc (.cells #[] 3))
    have hG4 := near_step hG3 (World.grownBy_alloc wc (.cells #[] 3) (some w.heap.size)) (fun k hk => .inl hk.symm)
    go_wp2_with fail
    go_loopw [5, 6] (fun v nv wr => ∃ (j : Nat) (zs : List Int), nv = .int .i64 (j : Nat) ∧ j ≤ n ∧ zs.length = j ∧ wr.ownsRow (w.heap.size + 1) 3 1 v zs.length (ints zs) ∧ Hid (Cur wr w.heap.size A bs c (10 + 4 * j)) ∧ w.grownBy wr (some w.heap.size)) (fun _ nv _ => n - (intOf nv).toNat)
    case atStart => exact ⟨0, [], rfl, by omega, rfl, hO3, HC4, hG4⟩
    case round =>
      clear hO3 hG4 hG3 HC4 HC3
      obtain ⟨j, zs, rfl, hj, hzj, hO, HK, hG⟩ := hrel
      have HZ := Lib.hid hzj
      have hzj2 : zs.length ≤ j := by omega
      clear hzj
      by_cases hjn : j < n
      · have j1 : (j : Int) < (n : Int) := by omega
        go_upto_region 9 with fail
        have hp4 := HK.out.lt
        have HC5 := Lib.hid (HK.out.alloc (.cells (ints [1, 1, 2, 3, 5, 8, 1000]).toArray 3))
        have hO5 := World.ownsRow.alloc hO (.cells (ints [1, 1, 2, 3, 5, 8, 1000]).toArray 3)
        have hG5 := near_step hG (World.grownBy_alloc wr (.cells (ints [1, 1, 2, 3, 5, 8, 1000]).toArray 3) (some w.heap.size)) (fun k hk => .inl hk.symm)
        have HD := Lib.hid (fun w' hg => lit_hold (w := wr) (w' := w') (T := 3) (zs := [1, 1, 2, 3, 5, 8, 1000]) hp4 hg)
        have HA := Lib.hid (among_any w.heap.size A bs c _ (some ⟨wr.heap.size, 0, none⟩) [1, 1, 2, 3, 5, 8, 1000] 7 _ HC5.out (by omega) (HD.out _ (near_refl _ _)) (by decide) (by decide) HD.out)
        go_wp2_with fail
        refine HA.out.mono ?_
        rintro e w5 ⟨z, hz, rfl, hc6, hg6⟩
        have hO6 := Cur.row HC5.out hO5 hg6 (by decide)
        have hG6 := near_step hG5 hg6 (fun k hk => .inl hk.symm)
        have HC6 := Lib.hid hc6
        clear hc6 hO5 hG5 hg6 hz hO hG
        have hwle := hG6.size
        have HLT := Lib.hid HC6.out.lt
        go_wp2_with (at_builtin; refine wpList_push' _ rfl (.tmp 23) (.tmp 27) 24 rfl (w.heap.size + 1) 3 i0 _ 1 8 Try.underlying24 hi hz0 hz1 hz2 rfl (by decide) _ zs.length _ rfl (World.ownsRow.alloc hO6 _) #[.int .i64 z] w5.heap.size rfl (Blk.new _ _ _) rfl (by simp [Value.oneCell']) (by omega) (by unfold maxLen; omega) (by rw [World.size_alloc]; have := HLT.out; omega) ?_; intro g7 c7 w7 o7 gr7 bl7 at7)
        have HC7 := Lib.hid (Cur.grown (HC6.out.alloc (.cells #[.int .i64 z] 3)) gr7 (fun k hk => by have := (own_lt hO6 k hk).1; omega))
        have hG7 := near_step (near_step hG6 (World.grownBy_alloc w5 (.cells #[.int .i64 z] 3) (some w.heap.size)) (fun k hk => .inl hk.symm)) gr7 (fun k hk => .inr (Nat.le_of_succ_le (own_lt hO6 k hk).1))
        rw [ints_snoc] at o7
        have hl7 : (zs ++ [(z : Int)]).length = zs.length + 1 := by simp
        rw [← hl7] at o7
        have HO7 := Lib.hid o7
        have HL7 := Lib.hid hl7
        clear o7 hl7 gr7 bl7 at7 hO6 hG6
        rw [HL7.out] at HO7
        go_wp2_with fail
        go_roundw
        case rel => exact ⟨j + 1, zs ++ [z], by go_num, by omega, by rw [HL7.out, HZ.out], by rw [HL7.out]; exact HO7.out, Lib.hid (HC7.out.more (by omega)), hG7⟩
        case measure => simp [intOf]; omega
      · have j1 : ¬ (j : Int) < (n : Int) := by omega
        go_wp2_with fail
        refine (one_any w.heap.size A bs c _ 20 _ HK.out (by omega) (by omega) (by omega)).mono ?_
        rintro e w4 ⟨b4, rfl, hc4, hg4⟩
        have hO4 := Cur.row HK.out hO hg4 (by decide)
        have hG4 := near_step hG hg4 (fun k hk => .inl hk.symm)
        have HC4 := Lib.hid hc4
        clear hc4 hO hG hg4
        cases b4
        case false =>
          go_wp2_with fail
          go_ret
          exact GotL.mk ⟨_, zs, rfl, own_base hO4 (Nat.le_succ _), by omega, below_near hG4 (Nat.le_refl _) (Nat.le_refl _)⟩
        case true =>
          have hp4 := HC4.out.lt
          have HC5 := Lib.hid (HC4.out.alloc (.cells (ints [0, -1, 1001]).toArray 3))
          have hO5 := World.ownsRow.alloc hO4 (.cells (ints [0, -1, 1001]).toArray 3)
          have hG5 := near_step hG4 (World.grownBy_alloc w4 (.cells (ints [0, -1, 1001]).toArray 3) (some w.heap.size)) (fun k hk => .inl hk.symm)
          have HD := Lib.hid (fun w' hg => lit_hold (w := w4) (w' := w') (T := 3) (zs := [0, -1, 1001]) hp4 hg)
          have HA := Lib.hid (among_any w.heap.size A bs c _ (some ⟨w4.heap.size, 0, none⟩) [0, -1, 1001] 3 _ HC5.out (by omega) (HD.out _ (near_refl _ _)) (by decide) (by decide) HD.out)
          go_wp2_with fail
          refine HA.out.mono ?_
          rintro e w5 ⟨z, hz, rfl, hc6, hg6⟩
          have hO6 := Cur.row HC5.out hO5 hg6 (by decide)
          have hG6 := near_step hG5 hg6 (fun k hk => .inl hk.symm)
          have HC6 := Lib.hid hc6
          clear hc6 hO5 hG5 hg6 hz hO4 hG4
          have hwle := hG6.size
          have HLT := Lib.hid HC6.out.lt
          go_wp2_with (at_builtin; refine wpList_push' _ rfl (.tmp 31) (.tmp 35) 24 rfl (w.heap.size + 1) 3 i0 _ 1 8 Try.underlying24 hi hz0 hz1 hz2 rfl (by decide) _ zs.length _ rfl (World.ownsRow.alloc hO6 _) #[.int .i64 z] w5.heap.size rfl (Blk.new _ _ _) rfl (by simp [Value.oneCell']) (by omega) (by unfold maxLen; omega) (by rw [World.size_alloc]; have := HLT.out; omega) ?_; intro g7 c7 w7 o7 gr7 bl7 at7)
          have HC7 := Lib.hid (Cur.grown (HC6.out.alloc (.cells #[.int .i64 z] 3)) gr7 (fun k hk => by have := (own_lt hO6 k hk).1; omega))
          have hG7 := near_step (near_step hG6 (World.grownBy_alloc w5 (.cells #[.int .i64 z] 3) (some w.heap.size)) (fun k hk => .inl hk.symm)) gr7 (fun k hk => .inr (Nat.le_of_succ_le (own_lt hO6 k hk).1))
          rw [ints_snoc] at o7
          have hl7 : (zs ++ [(z : Int)]).length = zs.length + 1 := by simp
          rw [← hl7] at o7
          have HO7 := Lib.hid o7
          have HL7 := Lib.hid hl7
          clear o7 hl7 gr7 bl7 at7 hO6 hG6
          rw [HL7.out] at HO7
          go_wp2_with fail
          go_ret
          exact GotL.mk ⟨_, zs ++ [z], rfl, by rw [HL7.out]; exact own_base HO7.out (Nat.le_succ _), by rw [HL7.out]; omega, below_near hG7 (Nat.le_refl _) (Nat.le_refl _)⟩
end Go.Proofs.Ytphcfjdhichfkaa
